/- F3 (TopWeighed) from region 14 to 25 (printed by mkF3b.py). A region of the law (printed by mkF3r.py). The reference's in, part and Check of layer 5: the walks (printed by mkT4.py). -/
import Derived.Deep.RegionHeld3
import Derived.Test.YtmhjhbchokbonaaGreatM0
import Derived.Test.YtmhjhbchokbonaaGreatM6
import Derived.Test.YtmhjhbchokbonaaGreatM9
import Derived.Test.YtmhjhbchokbonaaGreatM10
import Derived.Test.YtmhjhbchokbonaaGreatM17
import Derived.Test.YtmhjhbchokbonaaGreatM20
import Derived.Test.YtmhjhbchokbonaaGreatM24
import Derived.Test.YtmhjhbchokbonaaGreatM25
set_option maxRecDepth 1000000
set_option maxHeartbeats 16000000
namespace Go.Proofs.YtmhjhbchokbonaaGreat
open Go.RowKit
abbrev u8v (n : Int) : Value := .int .u8 n
theorem Srcs.below {w w' : World} {size : Nat} {src : Value} {m : Nat} {news : List Value} (hs : Srcs w size src m news) (hb : BW w w') : Srcs w' size src m news := by
 rcases hs with h' | ⟨ad, c, h1, h2, h3, h4⟩
 ·exact .inl h'
 ·exact .inr ⟨ad, c, h1, h2, fun j u hu => keepCa hb (h3 j u hu), h4⟩
theorem encWgh_one (x : Wgh) : ∀ u ∈ encWgh x, u.oneCell' = true := by
 intro u hu
 unfold encWgh at hu
 simp only [List.mem_cons, List.not_mem_nil, or_false] at hu
 rcases hu with rfl | rfl | rfl <;> rfl
theorem openE_pre {h : Hul} {l : List Wgh} (h0 : openE h l = 0) : openPre h l = 0 := by
 unfold openE at h0
 split at h0
 ·assumption
 ·exact h0
theorem f3_14 {K : Act → World → Prop} {w0 V : World} {h : StH} {b : Hul} {A AR AT AB AP AJ : Option Addr} {cap cR cT cB cP cJ gh gx gb : Nat} {us ar bl : List Int} {ta tb wa : Int} {z0 z1 z4 z5 z6 z7 z9 z10 z11 z12 z13 z14 z15 z16 z17 z18 z19 z20 z21 z22 z23 z24 z25 z26 z27 z28 z29 z30 z31 z32 z33 z34 z35 z36 z37 z38 z39 z40 z41 z42 z43 z44 z45 z46 z47 z48 z49 z50 z51 z52 z53 z54 z55 z56 z57 z58 z59 z60 z61 z62 z63 z64 z65 z66 z67 z68 z69 z70 z71 z72 z73 z74 z75 z76 z77 z78 z79 z80 z81 z82 z83 z84 z85 z86 z87 z88 z89 z90 z91 z92 z93 z94 z95 z96 z97 z98 z99 z100 z101 z102 z103 z104 z105 z106 z107 z108 z109 z110 z111 z112 z113 z114 z115 z116 z117 z118 z119 z120 z121 z122 z123 z124 z125 z126 z127 z128 z129 z130 z131 z132 z133 z134 z135 z136 z137 z138 z139 z140 z141 z142 z143 z144 z145 z146 z147 z148 z149 z150 z151 z152 z153 z154 z155 z156 z157 z158 z159 z160 z161 z162 z163 z164 z165 z166 z167 z168 z169 z170 z171 z172 z173 z174 z175 z176 z177 z178 z179 z180 z181 z182 z183 z184 z185 z186 z187 z188 z189 z190 z191 z192 z193 z194 z195 z196 z197 z198 z199 z200 z201 z202 z203 z204 z205 z206 z207 z208 z209 z210 z211 z212 z213 z214 z215 z216 z217 z218 z219 z220 z221 z222 z223 z224 z225 z226 z227 z228 z229 z230 z231 z232 z233 z234 z235 z236 z237 z238 z239 z240 z241 z242 z243 z244 z245 z246 z247 z248 z249 z250 z251 z252 z253 z254 z255 z256 z257 z258 z259 z260 z261 z262 z263 z264 z265 z266 z267 z268 z269 z270 z271 z272 z273 z274 z275 z276 z277 z278 z279 z280 z281 z282 z283 z284 z285 z286 z287 z288 z289 z290 z291 z292 z293 z294 z295 z296 z297 z298 z299 z300 z301 z302 z303 z304 z305 z306 z307 z308 z309 z310 z311 z312 z313 z314 z315 z316 z317 z318 z319 z320 z321 z322 : Value}
  (hK : ∀ a w, (restOf Tryz.f3 14).wp Tryz.prog (bodyPost Tryz.prog Tryz.f3 ((Rt w0 (.bool true)))) a w → K a w)
  (hB0 : BW w0 V)
  (hgh : Blk V gh 24 #[.slice A h.ps.length cap, iv h.aft, iv h.fore]) (hgx : Blk V gx 30 #[.slice AB bl.length cB, .slice AT us.length cT, .slice AR ar.length cR, .int .u16 ta, .int .u16 tb, .int .u16 wa]) (hgb : Blk V gb 40 #[.slice AP b.ps.length cP, .slice AJ b.js.length cJ, iv b.slo, iv b.shi, iv b.winch])
  (hH : H5Rd V V.heap.size h A cap) (hb : HulRd V V.heap.size b AP cP AJ cJ)
  (hbe : hulOf h = b) (hck : (checkE b).2.2 = 0) (hR : Rd1 uv V V.heap.size AR ar) (hU : U32s ar) (hRT : Rd1 uv V V.heap.size AT us) (hUT : U32s us) (hRB : Rd1 u8v V V.heap.size AB bl) (hUB : ∀ x ∈ bl, 0 ≤ x ∧ x ≤ 255) (hmB : bl.length ≤ maxLen)
  (hc : chk5 h = (0, 0, 0)) (ha : 0 ≤ ta ∧ ta ≤ 65535) (htb : 0 ≤ tb ∧ tb ≤ 65535) (hw : 0 ≤ wa ∧ wa ≤ 65535) :
  (regionOf Tryz.f3 14).wp Tryz.prog (Exit.then K (bodyPost Tryz.prog Tryz.f3 ((Rt w0 (.bool true))))) ⟨((z0 :: z1 :: (.pointer (some ⟨gh, 0, none⟩)) :: (.pointer (some ⟨gx, 0, none⟩)) :: z4 :: z5 :: z6 :: z7 :: (.pointer (some ⟨gb, 0, none⟩)) :: z9 :: z10 :: z11 :: z12 :: z13 :: z14 :: z15 :: z16 :: z17 :: z18 :: z19 :: z20 :: z21 :: z22 :: z23 :: z24 :: z25 :: z26 :: z27 :: z28 :: z29 :: z30 :: z31 :: z32 :: z33 :: z34 :: z35 :: z36 :: z37 :: z38 :: z39 :: z40 :: z41 :: z42 :: z43 :: z44 :: z45 :: z46 :: z47 :: z48 :: z49 :: z50 :: z51 :: z52 :: z53 :: z54 :: z55 :: z56 :: z57 :: z58 :: z59 :: z60 :: z61 :: z62 :: z63 :: z64 :: z65 :: z66 :: z67 :: z68 :: z69 :: z70 :: z71 :: z72 :: z73 :: z74 :: z75 :: z76 :: z77 :: z78 :: z79 :: z80 :: z81 :: z82 :: z83 :: z84 :: z85 :: z86 :: z87 :: z88 :: z89 :: z90 :: z91 :: z92 :: z93 :: z94 :: z95 :: z96 :: z97 :: z98 :: z99 :: z100 :: z101 :: z102 :: z103 :: z104 :: z105 :: z106 :: z107 :: z108 :: z109 :: z110 :: z111 :: z112 :: z113 :: z114 :: z115 :: z116 :: z117 :: z118 :: z119 :: z120 :: z121 :: z122 :: z123 :: z124 :: z125 :: z126 :: z127 :: z128 :: z129 :: z130 :: z131 :: z132 :: z133 :: z134 :: z135 :: z136 :: z137 :: z138 :: z139 :: z140 :: z141 :: z142 :: z143 :: z144 :: z145 :: z146 :: z147 :: z148 :: z149 :: z150 :: z151 :: z152 :: z153 :: z154 :: z155 :: z156 :: z157 :: z158 :: z159 :: z160 :: z161 :: z162 :: z163 :: z164 :: z165 :: z166 :: z167 :: z168 :: z169 :: z170 :: z171 :: z172 :: z173 :: z174 :: z175 :: z176 :: z177 :: z178 :: z179 :: z180 :: z181 :: z182 :: z183 :: z184 :: z185 :: z186 :: z187 :: z188 :: z189 :: z190 :: z191 :: z192 :: z193 :: z194 :: z195 :: z196 :: z197 :: z198 :: z199 :: z200 :: z201 :: z202 :: z203 :: z204 :: z205 :: z206 :: z207 :: z208 :: z209 :: z210 :: z211 :: z212 :: z213 :: z214 :: z215 :: z216 :: z217 :: z218 :: z219 :: z220 :: z221 :: z222 :: z223 :: z224 :: z225 :: z226 :: z227 :: z228 :: z229 :: z230 :: z231 :: z232 :: z233 :: z234 :: z235 :: z236 :: z237 :: z238 :: z239 :: z240 :: z241 :: z242 :: z243 :: z244 :: z245 :: z246 :: z247 :: z248 :: z249 :: z250 :: z251 :: z252 :: z253 :: z254 :: z255 :: z256 :: z257 :: z258 :: z259 :: z260 :: z261 :: z262 :: z263 :: z264 :: z265 :: z266 :: z267 :: z268 :: z269 :: z270 :: z271 :: z272 :: z273 :: z274 :: z275 :: z276 :: z277 :: z278 :: z279 :: z280 :: z281 :: z282 :: z283 :: z284 :: z285 :: z286 :: z287 :: z288 :: z289 :: z290 :: z291 :: z292 :: z293 :: z294 :: z295 :: z296 :: z297 :: z298 :: z299 :: z300 :: z301 :: z302 :: z303 :: z304 :: z305 :: z306 :: z307 :: z308 :: z309 :: z310 :: z311 :: z312 :: z313 :: z314 :: z315 :: z316 :: z317 :: z318 :: z319 :: z320 :: z321 :: z322 :: [] : List Value).toArray), []⟩ V := by
 obtain ⟨cc, hcc⟩ : ∃ c, c = restOf Tryz.f3 14 := ⟨_, rfl⟩
 rw [← hcc] at hK
 conv at hcc => rhs; whnf
 subst hcc
 have hk := (chk5_iff.1 (show (chk5 h).2.2 = 0 by rw [hc])).1
 have HT8 : Hid (∀ W, BW V W → Calls Tryz.prog 8 #[h5V h A cap, .slice AT us.length cT] W fun e w' => BW W w' ∧ ∃ A1 c1 A2 c2, e = .returned (.agg #[.slice A1 h.ps.length c1, .slice A2 h.ps.length c2]) ∧ T5Rd w' w'.heap.size (rowW (twF h us) h.ps.length) (rowW (tlF h us) h.ps.length) A1 A2) := Lq fun W hbW => truth8_any h A _ cap AT us cT W (hH.on hbW) hk hUT (hRT.below hbW (Nat.le_refl _) |>.more hbW.size) (Nat.le_refl _)
 have HK := Lq hk
 have HBD := Lq hB0
 have HH := Lq hH
 have HBB := Lq hb
 have HBE := Lq hbe
 have HCK := Lq hc
 have HAR := Lq (And.intro hR hU)
 unfold maxLen at hmB
 have HIN := Lq (And.intro ha (And.intro htb hw))
 have HBL := Lq (And.intro hRB hUB)
 have hbn : b.ps.length = h.ps.length := by rw [← hbe]; exact hulOf_len h
 have HBN := Lq hbn
 have HC : Hid (∀ W, BW V W → Blk W gh 24 #[.slice A h.ps.length cap, iv h.aft, iv h.fore] ∧ Blk W gx 30 #[.slice AB bl.length cB, .slice AT us.length cT, .slice AR ar.length cR, .int .u16 ta, .int .u16 tb, .int .u16 wa] ∧ Blk W gb 40 #[.slice AP b.ps.length cP, .slice AJ b.js.length cJ, iv b.slo, iv b.shi, iv b.winch]) :=
  Lq fun W hbW => ⟨hgh.same (hbW.block _ hgh.lt), hgx.same (hbW.block _ hgx.lt), hgb.same (hbW.block _ hgb.lt)⟩
 have HP : Hid (∀ W, BW V W → (W.cell? ⟨gh, 0, none⟩ = some (.slice A h.ps.length cap) ∧ W.cell? ⟨gh, 1, none⟩ = some (iv h.aft) ∧ W.cell? ⟨gh, 2, none⟩ = some (iv h.fore)) ∧ (W.cell? ⟨gx, 0, none⟩ = some (.slice AB bl.length cB) ∧ W.cell? ⟨gx, 1, none⟩ = some (.slice AT us.length cT)) ∧ (W.cell? ⟨gb, 0, none⟩ = some (.slice AP b.ps.length cP) ∧ W.cell? ⟨gb, 1, none⟩ = some (.slice AJ b.js.length cJ) ∧ W.cell? ⟨gb, 2, none⟩ = some (iv b.slo) ∧ W.cell? ⟨gb, 3, none⟩ = some (iv b.shi) ∧ W.cell? ⟨gb, 4, none⟩ = some (iv b.winch))) := Lq fun W hbW => by
  obtain ⟨k1, k2, k3⟩ := HC.out W hbW
  exact ⟨⟨k1.cell 0, k1.cell 1, k1.cell 2⟩, ⟨k2.cell 0, k2.cell 1⟩, ⟨k3.cell 0, k3.cell 1, k3.cell 2, k3.cell 3, k3.cell 4⟩⟩
 have HOK := Lq (hulOk hck)
 have HPN : Hid (openPre b [] = 0) := Lq (openPre_iff.2 ⟨hck, Nat.zero_le _, by simp, List.Pairwise.nil⟩)
 obtain ⟨⟨p0, p1, p2⟩, ⟨r0, r1⟩, f0, f1, f2, f3, f4⟩ := HP.out _ (belowR V)
 clear hB0 hgh hgx hgb hH hb hbe hR hU hRT hUT hRB hUB hc ha htb hw hk hbn hck
 obtain ⟨cc, hcc⟩ : ∃ c, c = regionOf Tryz.f3 14 := ⟨_, rfl⟩
 rw [← hcc]
 conv at hcc => rhs; whnf
 subst hcc
 go_wp2_with fail
 refine (HT8.out _ (belowR V)).mono ?_
 rintro e w2 ⟨hb, A1, c1, A2, c2, rfl, hT⟩
 have X2 := Lq hb
 have hgt := Blk.new w2 49 #[.slice A1 h.ps.length c1, .slice A2 h.ps.length c2]
 obtain ⟨g3, hg3⟩ := ex w2.heap.size
 obtain ⟨W3, hW3⟩ := ex (w2.alloc (.cells #[.slice A1 h.ps.length c1, .slice A2 h.ps.length c2] 49))
 have hb3 : BW w2 W3 := by rw [← hW3]; exact belowA (belowR _) _
 rw [hW3, hg3] at hgt
 have KT := Lq hgt
 have HT5 : Hid (T5Rd W3 W3.heap.size (rowW (twF h us) h.ps.length) (rowW (tlF h us) h.ps.length) A1 A2) := Lq (hT.on hb3)
 have X3 := Lq (belowT X2.out hb3)
 clear hb p0 p1 p2 r0 r1 f0 f1 f2 f3 f4 hT hgt hb3 HT8
 go_wp2_with fail
 clear hW3 hg3
 obtain ⟨wq, hwq⟩ : ∃ wq : World, wq = W3 := ⟨_, rfl⟩
 have HBQ : Hid (BW W3 wq) := Lq (by rw [hwq]; exact belowR _)
 rw [← hwq]
 clear hwq
 go_loopw [14, 15] (fun vl vi wr => ∃ (k : Nat) (l : List Wgh) (AL : Option Addr) (cL : Nat), k ≤ bl.length ∧ l.length ≤ 6 ∧ vi = iv k ∧ vl = .slice AL l.length cL ∧ Hid (RdN 3 encWgh wr wr.heap.size AL l ∧ l.length ≤ maxLen ∧ Srcs wr 3 (.slice AL l.length cL) l.length (l.flatMap encWgh)) ∧ Hid (openPre b l = 0) ∧ Hid (BW W3 wr)) (fun _ vi _ => bl.length - (intOf vi).toNat)
 case atStart => exact ⟨0, [], none, 0, Nat.zero_le _, by simp, rfl, rfl, Lq ⟨RdN.nil, by simp, .inl ⟨rfl, rfl, rfl⟩⟩, HPN, HBQ⟩
 case round =>
  obtain ⟨k, l, AL, cL, hkn, hl6, rfl, rfl, HSL, HPL, HBR⟩ := hrel
  have hbv := belowT X3.out HBR.out
  have hsl := HSL.out
  have hk0 : (0 : Int) ≤ (k : Int) := by omega
  obtain ⟨⟨p0, p1, p2⟩, ⟨r0, r1⟩, _⟩ := HP.out _ hbv
  by_cases hlt : k < bl.length
  ·have hkz : (k : Int) < (bl.length : Int) := by omega
   by_cases hl5 : l.length < 6
   ·have hlz : (l.length : Int) < 6 := by omega
    have XR := Lq hbv
    obtain ⟨v, hv⟩ : ∃ v, bl[k]? = some v := ⟨_, List.getElem?_eq_getElem hlt⟩
    obtain ⟨hv0, hv1⟩ := HBL.out.2 v (List.mem_of_getElem? hv)
    obtain ⟨bb, ob, rfl, hbb, hcv⟩ := (HBL.out.1.below hbv (Nat.le_refl _)) k v hv
    obtain ⟨vn, rfl⟩ : ∃ n : Nat, v = (n : Int) := ⟨v.toNat, by omega⟩
    have hn1 : 0 < h.ps.length := by have := HK.out.n1; omega
    have hn8 : h.ps.length ≤ 8 := by have := HOK.out.n8; rw [HBN.out] at this; exact this
    obtain ⟨F, hF⟩ := ex (vn % h.ps.length)
    have hFl : F < h.ps.length := by rw [← hF]; exact Nat.mod_lt _ hn1
    obtain ⟨D, hD⟩ := ex (h.ps.length - F)
    have hD0 : 0 < D := by omega
    obtain ⟨q, hq⟩ := ex (vn / 16)
    obtain ⟨R, hRq⟩ := ex (q % D)
    have hRl : R < D := by rw [← hRq]; exact Nat.mod_lt _ hD0
    have eF : (vn : Int).tmod (h.ps.length : Int) = (F : Int) := by rw [← hF]; exact (Int.ofNat_tmod _ _).symm
    have eq1 : (vn : Int).tdiv 16 = (q : Int) := by rw [← hq]; exact (Int.ofNat_tdiv _ 16).symm
    have eR : (q : Int).tmod (D : Int) = (R : Int) := by rw [← hRq]; exact (Int.ofNat_tmod _ _).symm
    have wv : IntKind.i64.wrap (vn : Int) = (vn : Int) := by rw [IntKind.wrap_i64]; omega
    have wq2 : IntKind.i64.wrap (q : Int) = (q : Int) := by rw [IntKind.wrap_i64]; omega
    have wD : IntKind.i64.wrap ((h.ps.length : Int) - (F : Int)) = (D : Int) := by rw [IntKind.wrap_i64]; omega
    have wM : IntKind.i64.wrap (1 + (R : Int)) = ((1 + R : Nat) : Int) := by rw [IntKind.wrap_i64]; omega
    obtain ⟨M, hM⟩ := ex (1 + R)
    rw [hM] at wM
    have wT : IntKind.i64.wrap ((F : Int) + (M : Int)) = ((F + M : Nat) : Int) := by rw [IntKind.wrap_i64]; omega
    obtain ⟨T, hT⟩ := ex (F + M)
    rw [hT] at wT
    have hb1 : 2 ^ T ≤ 2 ^ 8 := Nat.pow_le_pow_right (by decide) (by omega)
    have hb2 : 2 ^ F ≤ 2 ^ 8 := Nat.pow_le_pow_right (by decide) (by omega)
    have hT16 : T ≤ 16 := by omega
    have hF16 : F ≤ 16 := by omega
    have HB1 : Hid (∀ W, Calls Tryz.prog 9 #[iv (T : Nat)] W fun e w' => e = .returned (iv (2 ^ T : Nat)) ∧ W = w') := Lq fun W => bit_any T W hT16
    have HB2 : Hid (∀ W, Calls Tryz.prog 9 #[iv (F : Nat)] W fun e w' => e = .returned (iv (2 ^ F : Nat)) ∧ W = w') := Lq fun W => bit_any F W hF16
    have HXS : Hid (∀ W, BW wr W → W.cell? ⟨gx, 0, none⟩ = some (.slice (some ⟨bb, ob, none⟩) bl.length cB) ∧ W.cell? ⟨bb, ob + k, none⟩ = some (.int .u8 (vn : Int)) ∧ W.cell? ⟨gh, 0, none⟩ = some (.slice A h.ps.length cap)) := Lq fun W hbW => by
     obtain ⟨⟨a0, _, _⟩, ⟨b0, _⟩, _⟩ := HP.out _ (belowT hbv hbW)
     exact ⟨b0, keepC hbW hcv, a0⟩
    obtain ⟨P2, hP2⟩ : ∃ x : Nat, 2 ^ T = x := ⟨_, rfl⟩
    obtain ⟨P1, hP1⟩ : ∃ x : Nat, 2 ^ F = x := ⟨_, rfl⟩
    rw [hP2] at hb1 HB1
    rw [hP1] at hb2 HB2
    obtain ⟨SS, hSS⟩ : ∃ x : Int, (P2 : Int) - (P1 : Int) = x := ⟨_, rfl⟩
    have wS : IntKind.i64.wrap ((P2 : Int) - (P1 : Int)) = SS := by rw [IntKind.wrap_i64]; omega
    clear hbv hcv hv hv0 hv1 hF hD hq hRq hM hT hP1 hP2 hSS hb1 hb2 hT16 hF16 hbb hRl
    go_upto_region 19 with fail
    refine reg3_19 hlt wv hn1 eF HXS.out ?_
    intro u113 u114 u115 u116 u117 u118 u119 u120 u121 u122 wa1 hb1
    have Y1 := Lq hb1
    clear hb1
    go_upto_region 20 with fail
    refine reg3_20 hlt wv eq1 wq2 wD (Int.ofNat_lt.2 hD0) eR wM (fun W hbW => HXS.out W (belowT Y1.out hbW)) ?_
    intro u123 u124 u125 u126 u127 u128 u129 u130 u131 u132 u133 u134 u135 u136 wa2 hb2
    have Y2 := Lq (belowT Y1.out hb2)
    clear hb2 wv eq1 wq2 wD eR eF wM
    go_wp2_with fail
    refine (HB1.out _).mono ?_
    rintro e wb ⟨rfl, rfl⟩
    go_wp2_with fail
    refine (HB2.out _).mono ?_
    rintro e wb ⟨rfl, rfl⟩
    have ky := Blk.new wa2 54 #[iv SS, iv 0, iv 1000000]
    obtain ⟨gy, hgy⟩ := ex wa2.heap.size
    obtain ⟨W5, hW5⟩ := ex (wa2.alloc (.cells #[iv SS, iv 0, iv 1000000] 54))
    have hb5 : BW wa2 W5 := by rw [← hW5]; exact belowA (belowR _) _
    rw [hW5, hgy] at ky
    have KY := Lq ky
    have Y5 := Lq (belowT Y2.out hb5)
    have HYS : Hid (∀ W, BW W5 W → W.cell? ⟨gy, 0, none⟩ = some (iv SS) ∧ W.cell? ⟨gy, 1, none⟩ = some (iv 0) ∧ W.cell? ⟨gy, 2, none⟩ = some (iv 1000000)) := Lq fun W hbW => by
     have k := KY.out.same (hbW.block _ KY.out.lt)
     exact ⟨k.cell 0, k.cell 1, k.cell 2⟩
    clear hb5 ky HXS HB1 HB2 Y2 Y1
    go_upto_region 22 with fail
    clear hW5 hgy
    refine reg3_22 (C1 := l.flatMap encWgh) (by omega) (hsl.2.2.below Y5.out) HYS.out ?_
    intro v' u146 u147 u148 u149 u150 u151 wx hLV
    have hown := live_own hLV.2 (i := 0) rfl
    have hsrc := live_src hLV.2 (k := 0) rfl (by
     intro u hu
     simp only [List.nil_append, List.mem_append] at hu
     rcases hu with hu | hu
     ·obtain ⟨y, _, hy⟩ := List.mem_flatMap.1 hu
      exact encWgh_one y u hy
     ·simp only [List.mem_cons, List.not_mem_nil, or_false] at hu
      rcases hu with rfl | rfl | rfl <;> rfl)
    simp only [Nat.zero_add, List.nil_append] at hown hsrc
    obtain ⟨x, hx⟩ : ∃ x : Wgh, x = ⟨SS, 0, 1000000⟩ := ⟨_, rfl⟩
    have hfm : l.flatMap encWgh ++ [iv SS, iv 0, iv 1000000] = (l ++ [x]).flatMap encWgh := by rw [hx, List.flatMap_append]; rfl
    have hln : (l ++ [x]).length = l.length + 1 := by simp
    rw [hfm, ← hln] at hown hsrc
    obtain ⟨AM, cM, rfl, hRM, _, hm1, hm2⟩ := own_rdN encWgh_len hown
    obtain ⟨l2, hl2⟩ := ex (l ++ [x])
    rw [hl2] at hown hsrc hRM hm1 hln
    have YX := Lq (belowT Y5.out hLV.1)
    have hbx := belowT XR.out YX.out
    have HW10 := Lq (weighings_any b AP AJ _ cP cJ AM l2 cM wx (HBB.out.on hbx) hRM (by omega) (Nat.le_refl _))
    have HSM : Hid (RdN 3 encWgh wx wx.heap.size AM l2 ∧ l2.length ≤ maxLen ∧ Srcs wx 3 (.slice AM l2.length cM) l2.length (l2.flatMap encWgh)) := Lq ⟨hRM, by omega, hsrc⟩
    have XX := Lq hbx
    obtain ⟨_, _, f0, f1, f2, f3, f4⟩ := HP.out _ hbx
    rw [hl2]
    have hl26 : l2.length ≤ 6 := by omega
    clear hLV hown hsrc hfm hx hl2 hRM hm1 hm2 hbx Y5 HYS KY hln
    go_wp2_with fail
    refine HW10.out.mono ?_
    rintro e w10 ⟨rfl, hb⟩
    have YZ := Lq (belowT YX.out hb)
    have HBZ := Lq (belowT HBR.out YZ.out)
    have HS10 : Hid (RdN 3 encWgh w10 w10.heap.size AM l2 ∧ l2.length ≤ maxLen ∧ Srcs w10 3 (.slice AM l2.length cM) l2.length (l2.flatMap encWgh)) := Lq ⟨HSM.out.1.below hb (Nat.le_refl _) |>.more hb.size, HSM.out.2.1, HSM.out.2.2.below hb⟩
    have HS9 : Hid (RdN 3 encWgh w10 w10.heap.size AL l ∧ l.length ≤ maxLen ∧ Srcs w10 3 (.slice AL l.length cL) l.length (l.flatMap encWgh)) := Lq ⟨hsl.1.below YZ.out (Nat.le_refl _) |>.more YZ.out.size, hsl.2.1, hsl.2.2.below YZ.out⟩
    clear hb f0 f1 f2 f3 f4 HSM YX hsl HSL
    by_cases hop : openE b l2 = 0
    ·have HPL2 := Lq (openE_pre hop)
     rw [hop]
     clear hop
     go_wp2_with fail
     go_roundw
     case rel => exact ⟨k + 1, l2, AM, cM, by omega, hl26, by go_num, rfl, HS10, HPL2, HBZ⟩
     case measure => simp [intOf]; omega
    ·obtain ⟨E, hE⟩ := ex (openE b l2)
     rw [hE] at hop ⊢
     have hEb : (E == 0) = false := beq_eq_false_iff_ne.2 hop
     clear hop hE
     go_wp2_with fail
     go_roundw
     case rel => exact ⟨k + 1, l, AL, cL, by omega, hl6, by go_num, rfl, HS9, HPL, HBZ⟩
     case measure => simp [intOf]; omega
   ·have hlz : ¬ (l.length : Int) < 6 := by omega
    have EX := Lq (And.intro hbv (And.intro hsl HPL.out))
    clear hbv hsl
    go_upto_region 25 with fail
    obtain ⟨k1, k2, k3⟩ := HC.out _ EX.out.1
    exact f3_25 (by assumption) (belowT HBD.out EX.out.1) k1 k2 k3 (KT.out.same (HBR.out.block _ KT.out.lt)) (HH.out.on EX.out.1) (HBB.out.on EX.out.1) ((HT5.out).on HBR.out) HBE.out EX.out.2.1.1 EX.out.2.2 (HAR.out.1.below EX.out.1 (Nat.le_refl _) |>.more EX.out.1.size) HAR.out.2 HCK.out HIN.out.1 HIN.out.2.1 HIN.out.2.2
  ·have hkz : ¬ (k : Int) < (bl.length : Int) := by omega
   have EX := Lq (And.intro hbv (And.intro hsl HPL.out))
   clear hbv hsl
   go_upto_region 25 with fail
   obtain ⟨k1, k2, k3⟩ := HC.out _ EX.out.1
   exact f3_25 (by assumption) (belowT HBD.out EX.out.1) k1 k2 k3 (KT.out.same (HBR.out.block _ KT.out.lt)) (HH.out.on EX.out.1) (HBB.out.on EX.out.1) ((HT5.out).on HBR.out) HBE.out EX.out.2.1.1 EX.out.2.2 (HAR.out.1.below EX.out.1 (Nat.le_refl _) |>.more EX.out.1.size) HAR.out.2 HCK.out HIN.out.1 HIN.out.2.1 HIN.out.2.2
noncomputable def ops3_8 : Array Oper := opsOf (regionOf Tryz.f3 8)
theorem reg3_8 {Q : Exit → Act → World → Prop} {V : World} {base gb gh n b o1 N cap i : Nat} {vP vJ x2 x3 x4 : Value} {nm : ByteArray} {lo hi : Int} {xs : List Value} {z0 z1 z3 z4 z5 z6 z7 z10 z11 z12 z13 z14 z15 z16 z17 z18 z19 z20 z21 z22 z23 z24 z25 z26 z27 z28 z29 z30 z31 z32 z33 z34 z35 z36 z37 z38 z39 z40 z41 z42 z43 z44 z45 z46 z47 z48 z49 z50 z51 z52 z53 z54 z55 z56 z57 z58 z59 z60 z61 z62 z63 z64 z65 z66 z67 z68 z69 z70 z71 z72 z73 z74 z75 z76 z77 z78 z79 z80 z81 z82 z83 z84 z85 z86 z87 z88 z89 z90 z91 z92 z93 z94 z95 z96 z97 z98 z99 z100 z101 z102 z103 z104 z105 z106 z107 z108 z109 z110 z111 z112 z113 z114 z115 z116 z117 z118 z119 z120 z121 z122 z123 z124 z125 z126 z127 z128 z129 z130 z131 z132 z133 z134 z135 z136 z137 z138 z139 z140 z141 z142 z143 z144 z145 z146 z147 z148 z149 z150 z151 z152 z153 z154 z155 z156 z157 z158 z159 z160 z161 z162 z163 z164 z165 z166 z167 z168 z169 z170 z171 z172 z173 z174 z175 z176 z177 z178 z179 z180 z181 z182 z183 z184 z185 z186 z187 z188 z189 z190 z191 z192 z193 z194 z195 z196 z197 z198 z199 z200 z201 z202 z203 z204 z205 z206 z207 z208 z209 z210 z211 z212 z213 z214 z215 z216 z217 z218 z219 z220 z221 z222 z223 z224 z225 z226 z227 z228 z229 z230 z231 z232 z233 z234 z235 z236 z237 z238 z239 z240 z241 z242 z243 z244 z245 z246 z247 z248 z249 z250 z251 z252 z253 z254 z255 z256 z257 z258 z259 z260 z261 z262 z263 z264 z265 z266 z267 z268 z269 z270 z271 z272 z273 z274 z275 z276 z277 z278 z279 z280 z281 z282 z283 z284 z285 z286 z287 z288 z289 z290 z291 z292 z293 z294 z295 z296 z297 z298 z299 z300 z301 z302 z303 z304 z305 z306 z307 z308 z309 z310 z311 z312 z313 z314 z315 z316 z317 z318 z319 z320 z321 z322 : Value} (hn : n + 1 ≤ 100) (hbase : base ≤ V.heap.size) (hP : V.ownsRow base 44 3 vP n xs) (hgb : Blk V gb 40 #[vP, vJ, x2, x3, x4]) (hg1 : some gb ≠ vP.ownBlock) (hiN : i < N)
  (hSK : ∀ W, KeptO V W vP.ownBlock none → W.cell? ⟨gb, 0, none⟩ = some vP ∧ W.cell? ⟨gh, 0, none⟩ = some (.slice (some ⟨b, o1, none⟩) N cap) ∧ W.cell? ⟨b, o1 + i * 7, none⟩ = some (.string nm) ∧ W.cell? ⟨b, o1 + i * 7 + 2, none⟩ = some (iv lo) ∧ W.cell? ⟨b, o1 + i * 7 + 3, none⟩ = some (iv hi))
  (hS : ∀ W, BW V W → W.cell? ⟨gb, 0, none⟩ = some vP ∧ W.cell? ⟨gh, 0, none⟩ = some (.slice (some ⟨b, o1, none⟩) N cap) ∧ W.cell? ⟨b, o1 + i * 7, none⟩ = some (.string nm) ∧ W.cell? ⟨b, o1 + i * 7 + 2, none⟩ = some (iv lo) ∧ W.cell? ⟨b, o1 + i * 7 + 3, none⟩ = some (iv hi))
  (hQ : ∀  u56 u57 u58 u59 u60 u61 u62 u63 u64 u65 u66 u67 u68 u69 u70 u71 u72 u73 wx, (∃ g c W, OneR base 44 3 V W vP.ownBlock (.slice (some ⟨g, 0, none⟩) (n + 1) c) (n + 1) (xs ++ [.string nm, iv lo, iv hi]) ∧ wx = W.setCell ⟨gb, 0, none⟩ (.slice (some ⟨g, 0, none⟩) (n + 1) c)) → Q .normal ⟨((z0 :: z1 :: (.pointer (some ⟨gh, 0, none⟩)) :: z3 :: z4 :: z5 :: z6 :: z7 :: (.pointer (some ⟨gb, 0, none⟩)) :: (iv i) :: z10 :: z11 :: z12 :: z13 :: z14 :: z15 :: z16 :: z17 :: z18 :: z19 :: z20 :: z21 :: z22 :: z23 :: z24 :: z25 :: z26 :: z27 :: z28 :: z29 :: z30 :: z31 :: z32 :: z33 :: z34 :: z35 :: z36 :: z37 :: z38 :: z39 :: z40 :: z41 :: z42 :: z43 :: z44 :: z45 :: z46 :: z47 :: z48 :: z49 :: z50 :: z51 :: z52 :: z53 :: z54 :: z55 :: u56 :: u57 :: u58 :: u59 :: u60 :: u61 :: u62 :: u63 :: u64 :: u65 :: u66 :: u67 :: u68 :: u69 :: u70 :: u71 :: u72 :: u73 :: z74 :: z75 :: z76 :: z77 :: z78 :: z79 :: z80 :: z81 :: z82 :: z83 :: z84 :: z85 :: z86 :: z87 :: z88 :: z89 :: z90 :: z91 :: z92 :: z93 :: z94 :: z95 :: z96 :: z97 :: z98 :: z99 :: z100 :: z101 :: z102 :: z103 :: z104 :: z105 :: z106 :: z107 :: z108 :: z109 :: z110 :: z111 :: z112 :: z113 :: z114 :: z115 :: z116 :: z117 :: z118 :: z119 :: z120 :: z121 :: z122 :: z123 :: z124 :: z125 :: z126 :: z127 :: z128 :: z129 :: z130 :: z131 :: z132 :: z133 :: z134 :: z135 :: z136 :: z137 :: z138 :: z139 :: z140 :: z141 :: z142 :: z143 :: z144 :: z145 :: z146 :: z147 :: z148 :: z149 :: z150 :: z151 :: z152 :: z153 :: z154 :: z155 :: z156 :: z157 :: z158 :: z159 :: z160 :: z161 :: z162 :: z163 :: z164 :: z165 :: z166 :: z167 :: z168 :: z169 :: z170 :: z171 :: z172 :: z173 :: z174 :: z175 :: z176 :: z177 :: z178 :: z179 :: z180 :: z181 :: z182 :: z183 :: z184 :: z185 :: z186 :: z187 :: z188 :: z189 :: z190 :: z191 :: z192 :: z193 :: z194 :: z195 :: z196 :: z197 :: z198 :: z199 :: z200 :: z201 :: z202 :: z203 :: z204 :: z205 :: z206 :: z207 :: z208 :: z209 :: z210 :: z211 :: z212 :: z213 :: z214 :: z215 :: z216 :: z217 :: z218 :: z219 :: z220 :: z221 :: z222 :: z223 :: z224 :: z225 :: z226 :: z227 :: z228 :: z229 :: z230 :: z231 :: z232 :: z233 :: z234 :: z235 :: z236 :: z237 :: z238 :: z239 :: z240 :: z241 :: z242 :: z243 :: z244 :: z245 :: z246 :: z247 :: z248 :: z249 :: z250 :: z251 :: z252 :: z253 :: z254 :: z255 :: z256 :: z257 :: z258 :: z259 :: z260 :: z261 :: z262 :: z263 :: z264 :: z265 :: z266 :: z267 :: z268 :: z269 :: z270 :: z271 :: z272 :: z273 :: z274 :: z275 :: z276 :: z277 :: z278 :: z279 :: z280 :: z281 :: z282 :: z283 :: z284 :: z285 :: z286 :: z287 :: z288 :: z289 :: z290 :: z291 :: z292 :: z293 :: z294 :: z295 :: z296 :: z297 :: z298 :: z299 :: z300 :: z301 :: z302 :: z303 :: z304 :: z305 :: z306 :: z307 :: z308 :: z309 :: z310 :: z311 :: z312 :: z313 :: z314 :: z315 :: z316 :: z317 :: z318 :: z319 :: z320 :: z321 :: z322 :: [] : List Value).toArray), []⟩ wx) :
  (regionOf Tryz.f3 8).wp Tryz.prog Q ⟨((z0 :: z1 :: (.pointer (some ⟨gh, 0, none⟩)) :: z3 :: z4 :: z5 :: z6 :: z7 :: (.pointer (some ⟨gb, 0, none⟩)) :: (iv i) :: z10 :: z11 :: z12 :: z13 :: z14 :: z15 :: z16 :: z17 :: z18 :: z19 :: z20 :: z21 :: z22 :: z23 :: z24 :: z25 :: z26 :: z27 :: z28 :: z29 :: z30 :: z31 :: z32 :: z33 :: z34 :: z35 :: z36 :: z37 :: z38 :: z39 :: z40 :: z41 :: z42 :: z43 :: z44 :: z45 :: z46 :: z47 :: z48 :: z49 :: z50 :: z51 :: z52 :: z53 :: z54 :: z55 :: z56 :: z57 :: z58 :: z59 :: z60 :: z61 :: z62 :: z63 :: z64 :: z65 :: z66 :: z67 :: z68 :: z69 :: z70 :: z71 :: z72 :: z73 :: z74 :: z75 :: z76 :: z77 :: z78 :: z79 :: z80 :: z81 :: z82 :: z83 :: z84 :: z85 :: z86 :: z87 :: z88 :: z89 :: z90 :: z91 :: z92 :: z93 :: z94 :: z95 :: z96 :: z97 :: z98 :: z99 :: z100 :: z101 :: z102 :: z103 :: z104 :: z105 :: z106 :: z107 :: z108 :: z109 :: z110 :: z111 :: z112 :: z113 :: z114 :: z115 :: z116 :: z117 :: z118 :: z119 :: z120 :: z121 :: z122 :: z123 :: z124 :: z125 :: z126 :: z127 :: z128 :: z129 :: z130 :: z131 :: z132 :: z133 :: z134 :: z135 :: z136 :: z137 :: z138 :: z139 :: z140 :: z141 :: z142 :: z143 :: z144 :: z145 :: z146 :: z147 :: z148 :: z149 :: z150 :: z151 :: z152 :: z153 :: z154 :: z155 :: z156 :: z157 :: z158 :: z159 :: z160 :: z161 :: z162 :: z163 :: z164 :: z165 :: z166 :: z167 :: z168 :: z169 :: z170 :: z171 :: z172 :: z173 :: z174 :: z175 :: z176 :: z177 :: z178 :: z179 :: z180 :: z181 :: z182 :: z183 :: z184 :: z185 :: z186 :: z187 :: z188 :: z189 :: z190 :: z191 :: z192 :: z193 :: z194 :: z195 :: z196 :: z197 :: z198 :: z199 :: z200 :: z201 :: z202 :: z203 :: z204 :: z205 :: z206 :: z207 :: z208 :: z209 :: z210 :: z211 :: z212 :: z213 :: z214 :: z215 :: z216 :: z217 :: z218 :: z219 :: z220 :: z221 :: z222 :: z223 :: z224 :: z225 :: z226 :: z227 :: z228 :: z229 :: z230 :: z231 :: z232 :: z233 :: z234 :: z235 :: z236 :: z237 :: z238 :: z239 :: z240 :: z241 :: z242 :: z243 :: z244 :: z245 :: z246 :: z247 :: z248 :: z249 :: z250 :: z251 :: z252 :: z253 :: z254 :: z255 :: z256 :: z257 :: z258 :: z259 :: z260 :: z261 :: z262 :: z263 :: z264 :: z265 :: z266 :: z267 :: z268 :: z269 :: z270 :: z271 :: z272 :: z273 :: z274 :: z275 :: z276 :: z277 :: z278 :: z279 :: z280 :: z281 :: z282 :: z283 :: z284 :: z285 :: z286 :: z287 :: z288 :: z289 :: z290 :: z291 :: z292 :: z293 :: z294 :: z295 :: z296 :: z297 :: z298 :: z299 :: z300 :: z301 :: z302 :: z303 :: z304 :: z305 :: z306 :: z307 :: z308 :: z309 :: z310 :: z311 :: z312 :: z313 :: z314 :: z315 :: z316 :: z317 :: z318 :: z319 :: z320 :: z321 :: z322 :: [] : List Value).toArray), []⟩ V := by
 obtain ⟨i44, hi44, hz440, hz441, hz442⟩ := info_parts Tryz.info44
 have HSK := Lq hSK
 have HGT : Hid (∀ W, KeptO V W vP.ownBlock none → Blk W gb 40 #[vP, vJ, x2, x3, x4]) := Lq fun W hk => hk.blk hgb hg1 (by simp)
 have T0 : Hid (OneR base 44 3 V V.drew vP.ownBlock vP n xs) := Lq (OneR.start hP (belowDq (belowR V)))
 have hn9 : n + 1 ≤ maxLen := by unfold maxLen; omega
 have hn8 : (n + 1) * 32 ≤ 140737488355328 := by omega
 have hk0 : (0 : Int) ≤ (i : Int) := by omega
 have hkz : (i : Int) < (N : Int) := by omega
 clear hSK hgb hg1 hP
 have HS := Lq hS
 have HQ := Lq hQ
 have HB0 := Lq (belowDq (belowR V))
 clear hS hQ
 have e : regionOf Tryz.f3 8 = Code.region 8 ops3_8 true := by kernel_rfl
 rw [e]
 refine wp_region_noPanic ?_
 refine wp_region_late (S := (fun W => W.cell? ⟨gb, 0, none⟩ = some vP ∧ W.cell? ⟨gh, 0, none⟩ = some (.slice (some ⟨b, o1, none⟩) N cap) ∧ W.cell? ⟨b, o1 + i * 7, none⟩ = some (.string nm) ∧ W.cell? ⟨b, o1 + i * 7 + 2, none⟩ = some (iv lo) ∧ W.cell? ⟨b, o1 + i * 7 + 3, none⟩ = some (iv hi))) (late := (fun n => n == 18)) (by kernel_rfl) ?_
 have hHeld := HS.out _ HB0.out
 have hsz : ops3_8.size = 19 := by kernel_rfl
 have hrep : Array.replicate 19 false = #[false, false, false, false, false, false, false, false, false, false, false, false, false, false, false, false, false, false, false] := by kernel_rfl
 rw [hsz, hrep]
 clear e hsz hrep
 generalize V.drew = V0 at HB0 T0 hHeld ⊢
 refine tkL 0 (.pointer (some ⟨gb, 0, none⟩)) ?_
 refine tkL 2 (.pointer (some ⟨gh, 0, none⟩)) ?_
 refine tkL 4 (iv i) ?_
 refine tkL 8 (.pointer (some ⟨gh, 0, none⟩)) ?_
 refine tkL 10 (iv i) ?_
 refine tkL 1 vP ?_
 refine tkL 3 (.slice (some ⟨b, o1, none⟩) N cap) ?_
 refine tkL 9 (.slice (some ⟨b, o1, none⟩) N cap) ?_
 refine tkL 5 (.pointer (some ⟨b, o1 + i * 7, none⟩)) ?_
 refine tkL 11 (.pointer (some ⟨b, o1 + i * 7, none⟩)) ?_
 refine tkL 6 (.pointer (some ⟨b, o1 + i * 7, none⟩)) ?_
 refine tkL 12 (.pointer (some ⟨b, o1 + i * 7 + 2, none⟩)) ?_
 refine tkL 7 (.string nm) ?_
 refine tkL 13 (.agg #[iv lo, iv hi]) ?_
 refine tkL 14 (.agg #[.string nm, iv lo, iv hi]) ?_
 refine rdL1 15 fun K' hK => ?_
 go_simp
 have T1 := Lq (T0.out.below (belowA (belowR V0) (.cells #[.string nm, iv lo, iv hi] 44)))
 have L1 := Lq (Blk.new V0 44 #[.string nm, iv lo, iv hi])
 obtain ⟨w1, hw1⟩ := ex (V0.alloc (.cells #[.string nm, iv lo, iv hi] 44))
 obtain ⟨n1, hn1⟩ := ex V0.heap.size
 rw [hw1] at T1 L1 ⊢
 rw [hn1] at L1 ⊢
 refine hK.out _ _ (HSK.out _ T1.out.kept) (fun hHeld => ?_)
 clear hw1 hn1 T0
 clear hK
 refine rdL1 16 fun K' hK => ?_
 refine step_append_lies w1 (by rfl) _ _ _ (by rfl) base 44 i44 _ 3 32 Tryz.underlying37 hi44 hz440 hz441 hz442 rfl (by omega) _ n _ (by rfl) T1.out.ow ⟨n1, 0, none⟩ 1 1 [.string nm, iv lo, iv hi] (by rfl) (by rfl) (news_blkN L1.out) (by simp [Value.oneCell']) (by omega) hn9 hn8 (Nat.le_trans hbase T1.out.kept.size) _ rfl ?_
 intro g c w2 hown hgrow hat hlt
 have T2 := Lq (T1.out.grow hgrow hown hat)
 refine hK.out _ _ (HSK.out _ T2.out.kept) (fun hHeld => ?_)
 clear hown hgrow hat hlt T1 L1
 clear hK
 refine tkL 17 (.pointer (some ⟨gb, 0, none⟩)) ?_
 refine rdT 18 fun K' hK => ?_
 have bg := HGT.out _ T2.out.kept
 have cg := bg.c 0
 have fg := bg.frozen 0
 have lg := bg.lt
 go_simp
 refine hK.out _ _ ?_
 clear cg fg lg
 clear hK
 refine wpAny_of_held (S := fun _ => True) _ _ _ _ ?_
 refine wpAnyH_done (by kernel_rfl) ?_ _
 exact NoPanic.normal (HQ.out _ _ _ _ _ _ _ _ _ _ _ _ _ _ _ _ _ _ _ ⟨g, c, w2, T2.out, rfl⟩)
theorem in5_any (n lo hi : Int) (w : World) : Calls Tryz.prog 18 #[iv n, iv lo, iv hi] w fun e w' => e = .returned (.bool (inB lo hi n)) ∧ w = w' := by
 by_cases h1 : lo ≤ n
 ·go_enter Tryz.func18, Tryz.ntmps18
  go_wp2
  go_ret
  exact ⟨ret_bool (by unfold inB; rw [Bool.eq_iff_iff]; simp; omega), rfl⟩
 ·go_enter Tryz.func18, Tryz.ntmps18
  go_wp2
  go_ret
  exact ⟨ret_bool (by unfold inB; rw [Bool.eq_iff_iff]; simp; omega), rfl⟩
theorem in5_b {n lo hi : Int} {b : Bool} (h : inB lo hi n = b) (w : World) : Calls Tryz.prog 18 #[iv n, iv lo, iv hi] w fun e w' => e = .returned (.bool b) ∧ w = w' := by
 subst h; exact in5_any n lo hi w
theorem partC_rng (x : StP) (a b : Int) (ha : rangeE 0 1000000 x.wlo x.whi = a) (hb : rangeE 0 5000 x.llo x.lhi = b) : partC x = if inB 0 5000 x.pos && inB 0 1000 x.keel then (if a = 7 ∨ b = 7 then 7 else if a ≠ 0 then a else b) else 7 := by
 subst ha hb
 unfold partC rangeE
 cases inB 0 5000 x.pos <;> cases inB 0 1000 x.keel <;> cases (inB 0 1000000 x.wlo && inB 0 1000000 x.whi) <;> cases (inB 0 5000 x.llo && inB 0 5000 x.lhi) <;> simp <;> (repeat' split) <;> simp_all <;> omega
theorem part20_any (x : StP) (w : World) : Calls Tryz.prog 20 #[stV x] w (Rt w (iv (partC x))) := by
 obtain ⟨name, pos, wlo, whi, keel, llo, lhi⟩ := x
 obtain ⟨W1, hW1⟩ := ex (w.alloc (.cells #[.string name, iv pos, iv wlo, iv whi, iv keel, iv llo, iv lhi] 42))
 have hb0 : BW w W1 := by rw [← hW1]; exact belowA (belowR _) _
 have hq : Blk W1 w.heap.size 42 #[.string name, iv pos, iv wlo, iv whi, iv keel, iv llo, iv lhi] := by rw [← hW1]; exact Blk.new w 42 _
 have HB0 := Lq hb0
 have HC : Hid (∀ W, BW W1 W → W.cell? ⟨w.heap.size, 1, none⟩ = some (iv pos) ∧ W.cell? ⟨w.heap.size, 2, none⟩ = some (iv wlo) ∧ W.cell? ⟨w.heap.size, 3, none⟩ = some (iv whi) ∧ W.cell? ⟨w.heap.size, 4, none⟩ = some (iv keel) ∧ W.cell? ⟨w.heap.size, 5, none⟩ = some (iv llo) ∧ W.cell? ⟨w.heap.size, 6, none⟩ = some (iv lhi)) := Lq fun W hb => ⟨keepC hb (hq.cell 1), keepC hb (hq.cell 2), keepC hb (hq.cell 3), keepC hb (hq.cell 4), keepC hb (hq.cell 5), keepC hb (hq.cell 6)⟩
 have hws : w.heap.size < W1.heap.size := hq.lt
 obtain ⟨a, ha⟩ := ex (rangeE 0 1000000 wlo whi)
 obtain ⟨b, hb⟩ := ex (rangeE 0 5000 llo lhi)
 have hp := partC_rng ⟨name, pos, wlo, whi, keel, llo, lhi⟩ a b ha hb
 simp only at hp
 have hra := fun W => range_any 0 1000000 wlo whi W
 have hrb := fun W => range_any 0 5000 llo lhi W
 rw [ha] at hra
 rw [hb] at hrb
 have HRA := Lq hra
 have HRB := Lq hrb
 have ha7 : a = 0 ∨ a = 2 ∨ a = 7 := by rw [← ha]; unfold rangeE; split <;> (try split) <;> omega
 have hb7 : b = 0 ∨ b = 2 ∨ b = 7 := by rw [← hb]; unfold rangeE; split <;> (try split) <;> omega
 obtain ⟨R, hR⟩ := ex (partC ⟨name, pos, wlo, whi, keel, llo, lhi⟩)
 rw [hR] at hp ⊢
 obtain ⟨c1, h1⟩ := ex (inB 0 5000 pos)
 obtain ⟨c2, h2⟩ := ex (inB 0 1000 keel)
 rw [h1, h2] at hp
 have H1 := Lq h1
 have H2 := Lq h2
 have HP := Lq hp
 clear ha hb hra hrb hR h1 h2 hp hb0 hq
 have HBD0 := Lq (belowDq (belowR W1))
 obtain ⟨p1, p2, p3, p4, p5, p6⟩ := HC.out _ (belowR W1)
 go_enter Tryz.func20, Tryz.ntmps20
 go_wp2_with fail
 clear hW1 p1 p2 p3 p4 p5 p6
 go_region_held3 (fun W => W.cell? ⟨w.heap.size, 1, none⟩ = some (iv pos) ∧ W.cell? ⟨w.heap.size, 2, none⟩ = some (iv wlo) ∧ W.cell? ⟨w.heap.size, 3, none⟩ = some (iv whi) ∧ W.cell? ⟨w.heap.size, 4, none⟩ = some (iv keel) ∧ W.cell? ⟨w.heap.size, 5, none⟩ = some (iv llo) ∧ W.cell? ⟨w.heap.size, 6, none⟩ = some (iv lhi)) (first | exact HC.out _ HBD0.out | exact HC.out _ HB4.out | exact HC.out _ HB5.out) (((first | (go_at_call 43; ((with_reducible refine (HRA.out _).mono ?_); rintro e w4 ⟨rfl, hb4⟩; have HB4 := Lq (belowT HBD0.out hb4); clear hb4)) | (go_at_call 43; ((with_reducible refine (HRB.out _).mono ?_); rintro e w5 ⟨rfl, hb5⟩; have HB5 := Lq (belowT HB4.out hb5); clear hb5)))))
 obtain ⟨p1, p2, p3, p4, p5, p6⟩ := HC.out _ HB5.out
 cases c1 with
 | false =>
  go_wp2_with (first | (go_at_call 18; ((with_reducible refine (in5_b H1.out _).mono ?_); rintro e w' ⟨rfl, rfl⟩)))
  go_ret
  exact ⟨by rw [HP.out]; rfl, belowT HB0.out HB5.out⟩
 | true =>
  cases c2 with
  | false =>
   go_wp2_with (first | (go_at_call 18; ((with_reducible refine (in5_b H1.out _).mono ?_); rintro e w' ⟨rfl, rfl⟩)) | (go_at_call 18; ((with_reducible refine (in5_b H2.out _).mono ?_); rintro e w' ⟨rfl, rfl⟩)))
   go_ret
   exact ⟨by rw [HP.out]; rfl, belowT HB0.out HB5.out⟩
  | true =>
   have HP : Hid (R = if a = 7 ∨ b = 7 then 7 else if a ≠ 0 then a else b) := Lq HP.out
   rcases ha7 with rfl | rfl | rfl <;> rcases hb7 with rfl | rfl | rfl <;> (go_wp2_with (first | (go_at_call 18; ((with_reducible refine (in5_b H1.out _).mono ?_); rintro e w' ⟨rfl, rfl⟩)) | (go_at_call 18; ((with_reducible refine (in5_b H2.out _).mono ?_); rintro e w' ⟨rfl, rfl⟩))); go_ret; exact ⟨by rw [HP.out]; rfl, belowT HB0.out HB5.out⟩)
theorem refCheck5_any (h : StH) (A : Option Addr) (B cap : Nat) (w : World) (hH : H5Rd w B h A cap) (hB : B ≤ w.heap.size) :
  Calls Tryz.prog 4 #[h5V h A cap] w (Rt w (ret3 (chk5 h))) := by
 obtain ⟨i0, hi0, hz0, hz1, hz2⟩ := info_parts Tryz.info9
 obtain ⟨W1, hW1, hb0, p0, p1, p2⟩ := h5Box w h A cap
 have HC : Hid (∀ W, BW W1 W → W.cell? ⟨w.heap.size, 0, none⟩ = some (.slice A h.ps.length cap) ∧ W.cell? ⟨w.heap.size, 1, none⟩ = some (iv h.aft) ∧ W.cell? ⟨w.heap.size, 2, none⟩ = some (iv h.fore)) := Lq fun W hb => ⟨keepC hb p0, keepC hb p1, keepC hb p2⟩
 have HH := Lq (hH.below hb0 hB)
 have HB0 := Lq hb0
 have hBz := Nat.le_trans hB hb0.size
 have hws : w.heap.size < W1.heap.size := lt_of_cell p0
 have hpl := hH.pl
 have hpm := hH.pm
 unfold maxLen at hpm
 have HCH : Hid (chk5 h = if inB 1 10 h.ps.length then (if inB 0 5000 h.aft && inB 0 5000 h.fore then (if h.fore ≤ h.aft then (1, 0, 2) else chkT h) else (1, 0, 7)) else (1, 0, 3)) := Lq rfl
 obtain ⟨R, hR⟩ := ex (chk5 h)
 rw [hR] at HCH ⊢
 obtain ⟨b1, h1⟩ := ex (inB 1 10 (h.ps.length : Int))
 obtain ⟨b2, h2⟩ := ex (inB 0 5000 h.aft)
 obtain ⟨b3, h3⟩ := ex (inB 0 5000 h.fore)
 rw [h1, h2, h3] at HCH
 have H1 := Lq h1
 have H2 := Lq h2
 have H3 := Lq h3
 clear hR hb0 hH h2 h3
 cases b1 with
 | false =>
  have HR : Hid (R = (1, 0, 3)) := Lq (by rw [HCH.out]; rfl)
  go_enter Tryz.func4, Tryz.ntmps4
  go_wp2_with (first | (go_at_call 18; ((with_reducible refine (in5_b H1.out _).mono ?_); rintro e w' ⟨rfl, rfl⟩)))
  go_ret3
  exact ⟨by rw [HR.out]; rfl, HB0.out⟩
 | true =>
  have h10 : h.ps.length ≤ 10 := by have := (inB_t h1).2; omega
  clear h1
  cases b2 with
  | false =>
   have HR : Hid (R = (1, 0, 7)) := Lq (by rw [HCH.out]; rfl)
   go_enter Tryz.func4, Tryz.ntmps4
   go_wp2_with (first | (go_at_call 18; ((with_reducible refine (in5_b H1.out _).mono ?_); rintro e w' ⟨rfl, rfl⟩)) | (go_at_call 18; ((with_reducible refine (in5_b H2.out _).mono ?_); rintro e w' ⟨rfl, rfl⟩)))
   go_ret3
   exact ⟨by rw [HR.out]; rfl, HB0.out⟩
  | true =>
   cases b3 with
   | false =>
    have HR : Hid (R = (1, 0, 7)) := Lq (by rw [HCH.out]; rfl)
    go_enter Tryz.func4, Tryz.ntmps4
    go_wp2_with (first | (go_at_call 18; ((with_reducible refine (in5_b H1.out _).mono ?_); rintro e w' ⟨rfl, rfl⟩)) | (go_at_call 18; ((with_reducible refine (in5_b H2.out _).mono ?_); rintro e w' ⟨rfl, rfl⟩)) | (go_at_call 18; ((with_reducible refine (in5_b H3.out _).mono ?_); rintro e w' ⟨rfl, rfl⟩)))
    go_ret3
    exact ⟨by rw [HR.out]; rfl, HB0.out⟩
   | true =>
    by_cases hf : h.fore ≤ h.aft
    ·have HR : Hid (R = (1, 0, 2)) := Lq ((show R = if h.fore ≤ h.aft then (1, 0, 2) else chkT h from HCH.out).trans (if_pos hf))
     have hd : decide (h.fore ≤ h.aft) = true := decide_eq_true hf
     go_enter Tryz.func4, Tryz.ntmps4
     go_wp2_with (first | (go_at_call 18; ((with_reducible refine (in5_b H1.out _).mono ?_); rintro e w' ⟨rfl, rfl⟩)) | (go_at_call 18; ((with_reducible refine (in5_b H2.out _).mono ?_); rintro e w' ⟨rfl, rfl⟩)) | (go_at_call 18; ((with_reducible refine (in5_b H3.out _).mono ?_); rintro e w' ⟨rfl, rfl⟩)))
     go_ret3
     exact ⟨by rw [HR.out]; rfl, HB0.out⟩
    ·have HR : Hid (R = chkT h) := Lq ((show R = if h.fore ≤ h.aft then (1, 0, 2) else chkT h from HCH.out).trans (if_neg hf))
     have hd : decide (h.fore ≤ h.aft) = false := decide_eq_false hf
     have HNM := Lq HH.out.nm
     go_enter Tryz.func4, Tryz.ntmps4
     go_wp2_with (first | (go_at_call 18; ((with_reducible refine (in5_b H1.out _).mono ?_); rintro e w' ⟨rfl, rfl⟩)) | (go_at_call 18; ((with_reducible refine (in5_b H2.out _).mono ?_); rintro e w' ⟨rfl, rfl⟩)) | (go_at_call 18; ((with_reducible refine (in5_b H3.out _).mono ?_); rintro e w' ⟨rfl, rfl⟩)))
     clear hW1 p0 p1 p2
     go_loopw [5, 6] (fun vn vi wr => ∃ (k : Nat) (v : Value), k ≤ h.ps.length ∧ vi = iv k ∧ v = vn ∧ Hid (wr.ownsRow W1.heap.size 9 1 v k (((h.ps.take k).map StP.name).map Value.string)) ∧ Hid (BW W1 wr) ∧ Hid (firstBad (spE h.ps) k = none)) (fun _ vi _ => h.ps.length - (intOf vi).toNat)
     case atStart => exact ⟨0, _, Nat.zero_le _, rfl, rfl, Lq (World.ownsRow_nil _ _ _ _), Lq (belowR _), Lq rfl⟩
     case round =>
      obtain ⟨k, v, hk, rfl, rfl, OWN, HBW, HN⟩ := hrel
      obtain ⟨p0, p1, p2⟩ := HC.out _ HBW.out
      have hzr := HBW.out.size
      by_cases hlt : k < h.ps.length
      ·obtain ⟨c, hx⟩ : ∃ x, h.ps[k]? = some x := ⟨_, List.getElem?_eq_getElem hlt⟩
       have hsn := HNM.out c (List.mem_of_getElem? hx)
       have HX := Lq hx
       have htk : (h.ps.take k).length = k := by rw [List.length_take]; omega
       have htk1 : h.ps.take (k + 1) = h.ps.take k ++ [c] := by
        obtain ⟨h, rfl⟩ := List.getElem?_eq_some_iff.1 hx
        rw [List.take_succ_eq_append_getElem h]
       obtain ⟨A2, cap2, rfl, hrd, hA2⟩ := own_rd1 (xs := (h.ps.take k).map StP.name) (enc := Value.string) (by rw [List.length_map, htk]; exact OWN.out)
       clear hA2
       rw [List.length_map, htk] at OWN ⊢
       have ht := fresh_any A2 ((h.ps.take k).map StP.name) wr.heap.size cap2 c.name wr hsn (by rw [List.length_map, htk]; unfold maxLen; omega) hrd (Nat.le_refl _)
       rw [List.length_map, htk] at ht
       have he : spE h.ps k = if freshE ((h.ps.take k).map StP.name) c.name = 0 then partC c else freshE ((h.ps.take k).map StP.name) c.name := by unfold spE; rw [hx]
       obtain ⟨T, hT⟩ := ex (freshE ((h.ps.take k).map StP.name) c.name)
       rw [hT] at he ht
       obtain ⟨b, off, rfl, _, e0, e1, e2, e3, e4, e5, e6⟩ := stAt (HH.out.ps.below HBW.out hBz) hx
       have hpc := fun V => part20_any c V
       obtain ⟨V, hV⟩ := ex (partC c)
       rw [hV] at he hpc
       obtain ⟨name, pos, wlo, whi, keel, llo, lhi⟩ := c
       simp only at e0 e1 e2 e3 e4 e5 e6 ht hsn he hpc
       have HT := Lq ht
       have HTK := Lq htk1
       have HPC := Lq hpc
       have HE := Lq he
       have hkz : (k : Int) < (h.ps.length : Int) := by omega
       have hk0 : (0 : Int) ≤ (k : Int) := by omega
       clear htk htk1 hrd ht hT hx hpc hV he
       go_wp2_with fail
       refine HT.out.mono ?_
       rintro e w3 ⟨rfl, hb3⟩
       have OWN3 := Lq (own_below OWN.out hb3)
       have HB3 := Lq (belowT HBW.out hb3)
       have d0 := keepC hb3 e0
       have hz3 := hb3.size
       clear p0 p1 p2 e0 e1 e2 e3 e4 e5 e6
       obtain ⟨p0, p1, p2⟩ := HC.out _ HB3.out
       have hnew : ∀ j u, [Value.string name][j]? = some u → (w3.alloc (.cells #[.string name] 9)).cell? ((⟨w3.heap.size, 0, none⟩ : Addr).add j) = some u := one_new _ _ _
       have HNW := Lq hnew
       clear hb3 hnew OWN p1 p2
       go_wp2_with (at_builtin; refine wpList_append_own _ rfl _ _ 72 rfl W1.heap.size 9 i0 (.string ⟨#[]⟩) 1 16 Tryz.underlying72 hi0 hz0 hz1 hz2 rfl (by decide) _ _ _ rfl (OWN3.out.alloc _) ⟨w3.heap.size, 0, none⟩ 1 1 [.string name] rfl rfl ?c1 ?c2 ?c3 ?c4 ?c5 ?_)
       case c1 => exact HNW.out
       case c2 => simp [Value.oneCell']
       case c3 => unfold maxLen; omega
       case c4 => omega
       case c5 => simp; omega
       intro v' w4 hown' hgrow _
       have hB4 : BW W1 w4 := grownB (OWN3.out.alloc _) hgrow (Nat.le_refl _) (belowA HB3.out _)
       have HO' : Hid (w4.ownsRow W1.heap.size 9 1 v' (k + 1) (((h.ps.take (k + 1)).map StP.name).map Value.string)) := Lq (by have h := hown'; rw [HTK.out]; simpa using h)
       have HB4 := Lq hB4
       clear hgrow hown' p0 d0 hB4
       by_cases hT0 : T = 0
       ·subst hT0
        have HE2 : Hid (spE h.ps k = V) := Lq (by rw [HE.out, if_pos rfl])
        obtain ⟨p0, p1, p2⟩ := HC.out _ HB4.out
        obtain ⟨b', off', he', _, e0, e1, e2, e3, e4, e5, e6⟩ := stAt (HH.out.ps.below HB4.out hBz) HX.out
        injection he' with he'
        injection he' with he1 he2
        subst he1 he2
        simp only at e0 e1 e2 e3 e4 e5 e6
        go_wp2_with fail
        refine (HPC.out _).mono ?_
        rintro e w5 ⟨rfl, hb5⟩
        have HO5 := Lq (own_below HO'.out hb5)
        have HB5 := Lq (belowT HB4.out hb5)
        clear hb5 p0 p1 p2 e0 e1 e2 e3 e4 e5 e6 HO' HB4
        by_cases hV0 : V = 0
        ·subst hV0
         go_wp2_with fail
         go_roundw
         case rel => exact ⟨k + 1, v', by omega, by go_num, rfl, HO5, HB5, Lq (firstBad_succ HN.out HE2.out)⟩
         case measure => simp [intOf]; omega
        ·have hne2 : (V != 0) = true := by simpa using hV0
         have HEND : Hid (R = ((2 : Int), (k : Int), V)) := Lq (by rw [HR.out]; exact chkT_at HN.out HE2.out hV0 hlt)
         go_wp2_with fail
         go_ret3
         exact ⟨by rw [HEND.out]; rfl, belowT HB0.out HB5.out⟩
       ·have hne1 : (T == 0) = false := by simpa using hT0
        have hne2 : (T != 0) = true := by simpa using hT0
        have HEND : Hid (R = ((2 : Int), (k : Int), T)) := Lq (by rw [HR.out]; exact chkT_at HN.out (by rw [HE.out, if_neg hT0]) hT0 hlt)
        go_wp2_with fail
        go_ret3
        exact ⟨by rw [HEND.out]; rfl, belowT HB0.out HB4.out⟩
      ·obtain rfl : k = h.ps.length := by omega
       have HEND : Hid (R = (0, 0, 0)) := Lq (by rw [HR.out]; exact chkT_ok HN.out)
       go_wp2_with fail
       go_ret3
       exact ⟨by rw [HEND.out]; rfl, belowT HB0.out HBW.out⟩
end Go.Proofs.YtmhjhbchokbonaaGreat
