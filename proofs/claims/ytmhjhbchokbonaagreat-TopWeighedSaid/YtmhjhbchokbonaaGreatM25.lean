/- F3 (TopWeighed) from region 25 to 37 (printed by mkF3c.py). A region of the law (printed by mkF3r.py). A region of the law (printed by mkF3r.py). A region of the law (printed by mkF3r.py). -/
import Derived.Deep.RegionHeld3
import Derived.Test.YtmhjhbchokbonaaGreatM0
import Derived.Test.YtmhjhbchokbonaaGreatM10
import Derived.Test.YtmhjhbchokbonaaGreatM17
import Derived.Test.YtmhjhbchokbonaaGreatM20
import Derived.Test.YtmhjhbchokbonaaGreatM24
set_option maxRecDepth 1000000
set_option maxHeartbeats 16000000
namespace Go.Proofs.YtmhjhbchokbonaaGreat
open Go.RowKit
theorem Tryz.info42 : (Tryz.prog.info? 42).map (fun i => (i.zero, i.size, i.bytes)) = some (some (.agg #[.string ⟨#[]⟩, iv 0, iv 0, iv 0, iv 0, iv 0, iv 0]), 7, 64) := by kernel_rfl
theorem f3_25 {K : Act → World → Prop} {w0 V : World} {h : StH} {b : Hul} {A AL A1 A2 AR AP AJ : Option Addr} {cap cL c1 c2 cR cP cJ gh gx gt gb : Nat} {us ar : List Int} {l : List Wgh} {s0 s1 : Value} {ta tb wa : Int} {z0 z1 z4 z5 z6 z7 z9 z10 z11 z12 z15 z16 z17 z18 z19 z20 z21 z22 z23 z24 z25 z26 z27 z28 z29 z30 z31 z32 z33 z34 z35 z36 z37 z38 z39 z40 z41 z42 z43 z44 z45 z46 z47 z48 z49 z50 z51 z52 z53 z54 z55 z56 z57 z58 z59 z60 z61 z62 z63 z64 z65 z66 z67 z68 z69 z70 z71 z72 z73 z74 z75 z76 z77 z78 z79 z80 z81 z82 z83 z84 z85 z86 z87 z88 z89 z90 z91 z92 z93 z94 z95 z96 z97 z98 z99 z100 z101 z102 z103 z104 z105 z106 z107 z108 z109 z110 z111 z112 z113 z114 z115 z116 z117 z118 z119 z120 z121 z122 z123 z124 z125 z126 z127 z128 z129 z130 z131 z132 z133 z134 z135 z136 z137 z138 z139 z140 z141 z142 z143 z144 z145 z146 z147 z148 z149 z150 z151 z152 z153 z154 z155 z156 z157 z158 z159 z160 z161 z162 z163 z164 z165 z166 z167 z168 z169 z170 z171 z172 z173 z174 z175 z176 z177 z178 z179 z180 z181 z182 z183 z184 z185 z186 z187 z188 z189 z190 z191 z192 z193 z194 z195 z196 z197 z198 z199 z200 z201 z202 z203 z204 z205 z206 z207 z208 z209 z210 z211 z212 z213 z214 z215 z216 z217 z218 z219 z220 z221 z222 z223 z224 z225 z226 z227 z228 z229 z230 z231 z232 z233 z234 z235 z236 z237 z238 z239 z240 z241 z242 z243 z244 z245 z246 z247 z248 z249 z250 z251 z252 z253 z254 z255 z256 z257 z258 z259 z260 z261 z262 z263 z264 z265 z266 z267 z268 z269 z270 z271 z272 z273 z274 z275 z276 z277 z278 z279 z280 z281 z282 z283 z284 z285 z286 z287 z288 z289 z290 z291 z292 z293 z294 z295 z296 z297 z298 z299 z300 z301 z302 z303 z304 z305 z306 z307 z308 z309 z310 z311 z312 z313 z314 z315 z316 z317 z318 z319 z320 z321 z322 : Value}
  (hK : ∀ a w, (restOf Tryz.f3 25).wp Tryz.prog (bodyPost Tryz.prog Tryz.f3 ((Rt w0 (.bool true)))) a w → K a w)
  (hB0 : BW w0 V)
  (hgh : Blk V gh 24 #[.slice A h.ps.length cap, iv h.aft, iv h.fore]) (hgx : Blk V gx 30 #[s0, s1, .slice AR ar.length cR, .int .u16 ta, .int .u16 tb, .int .u16 wa])
  (hgb : Blk V gb 40 #[.slice AP b.ps.length cP, .slice AJ b.js.length cJ, iv b.slo, iv b.shi, iv b.winch]) (hgt : Blk V gt 49 #[.slice A1 h.ps.length c1, .slice A2 h.ps.length c2])
  (hH : H5Rd V V.heap.size h A cap) (hb : HulRd V V.heap.size b AP cP AJ cJ) (hT : T5Rd V V.heap.size (rowW (twF h us) h.ps.length) (rowW (tlF h us) h.ps.length) A1 A2)
  (hbe : hulOf h = b) (hL : RdN 3 encWgh V V.heap.size AL l) (hp : openPre b l = 0) (hR : Rd1 uv V V.heap.size AR ar) (hU : U32s ar)
  (hc : chk5 h = (0, 0, 0)) (ha : 0 ≤ ta ∧ ta ≤ 65535) (htb : 0 ≤ tb ∧ tb ≤ 65535) (hw : 0 ≤ wa ∧ wa ≤ 65535) :
  (regionOf Tryz.f3 25).wp Tryz.prog (Exit.then K (bodyPost Tryz.prog Tryz.f3 ((Rt w0 (.bool true))))) ⟨((z0 :: z1 :: (pT gh 0) :: (pT gx 0) :: z4 :: z5 :: z6 :: z7 :: (pT gb 0) :: z9 :: z10 :: z11 :: z12 :: (pT gt 0) :: (.slice AL l.length cL) :: z15 :: z16 :: z17 :: z18 :: z19 :: z20 :: z21 :: z22 :: z23 :: z24 :: z25 :: z26 :: z27 :: z28 :: z29 :: z30 :: z31 :: z32 :: z33 :: z34 :: z35 :: z36 :: z37 :: z38 :: z39 :: z40 :: z41 :: z42 :: z43 :: z44 :: z45 :: z46 :: z47 :: z48 :: z49 :: z50 :: z51 :: z52 :: z53 :: z54 :: z55 :: z56 :: z57 :: z58 :: z59 :: z60 :: z61 :: z62 :: z63 :: z64 :: z65 :: z66 :: z67 :: z68 :: z69 :: z70 :: z71 :: z72 :: z73 :: z74 :: z75 :: z76 :: z77 :: z78 :: z79 :: z80 :: z81 :: z82 :: z83 :: z84 :: z85 :: z86 :: z87 :: z88 :: z89 :: z90 :: z91 :: z92 :: z93 :: z94 :: z95 :: z96 :: z97 :: z98 :: z99 :: z100 :: z101 :: z102 :: z103 :: z104 :: z105 :: z106 :: z107 :: z108 :: z109 :: z110 :: z111 :: z112 :: z113 :: z114 :: z115 :: z116 :: z117 :: z118 :: z119 :: z120 :: z121 :: z122 :: z123 :: z124 :: z125 :: z126 :: z127 :: z128 :: z129 :: z130 :: z131 :: z132 :: z133 :: z134 :: z135 :: z136 :: z137 :: z138 :: z139 :: z140 :: z141 :: z142 :: z143 :: z144 :: z145 :: z146 :: z147 :: z148 :: z149 :: z150 :: z151 :: z152 :: z153 :: z154 :: z155 :: z156 :: z157 :: z158 :: z159 :: z160 :: z161 :: z162 :: z163 :: z164 :: z165 :: z166 :: z167 :: z168 :: z169 :: z170 :: z171 :: z172 :: z173 :: z174 :: z175 :: z176 :: z177 :: z178 :: z179 :: z180 :: z181 :: z182 :: z183 :: z184 :: z185 :: z186 :: z187 :: z188 :: z189 :: z190 :: z191 :: z192 :: z193 :: z194 :: z195 :: z196 :: z197 :: z198 :: z199 :: z200 :: z201 :: z202 :: z203 :: z204 :: z205 :: z206 :: z207 :: z208 :: z209 :: z210 :: z211 :: z212 :: z213 :: z214 :: z215 :: z216 :: z217 :: z218 :: z219 :: z220 :: z221 :: z222 :: z223 :: z224 :: z225 :: z226 :: z227 :: z228 :: z229 :: z230 :: z231 :: z232 :: z233 :: z234 :: z235 :: z236 :: z237 :: z238 :: z239 :: z240 :: z241 :: z242 :: z243 :: z244 :: z245 :: z246 :: z247 :: z248 :: z249 :: z250 :: z251 :: z252 :: z253 :: z254 :: z255 :: z256 :: z257 :: z258 :: z259 :: z260 :: z261 :: z262 :: z263 :: z264 :: z265 :: z266 :: z267 :: z268 :: z269 :: z270 :: z271 :: z272 :: z273 :: z274 :: z275 :: z276 :: z277 :: z278 :: z279 :: z280 :: z281 :: z282 :: z283 :: z284 :: z285 :: z286 :: z287 :: z288 :: z289 :: z290 :: z291 :: z292 :: z293 :: z294 :: z295 :: z296 :: z297 :: z298 :: z299 :: z300 :: z301 :: z302 :: z303 :: z304 :: z305 :: z306 :: z307 :: z308 :: z309 :: z310 :: z311 :: z312 :: z313 :: z314 :: z315 :: z316 :: z317 :: z318 :: z319 :: z320 :: z321 :: z322 :: [] : List Value).toArray), []⟩ V := by
 obtain ⟨cc, hcc⟩ : ∃ c, c = restOf Tryz.f3 25 := ⟨_, rfl⟩
 rw [← hcc] at hK
 conv at hcc => rhs; whnf
 subst hcc
 have hbn : b.ps.length = h.ps.length := by rw [← hbe]; exact hulOf_len h
 have hk := (chk5_iff.1 (show (chk5 h).2.2 = 0 by rw [hc])).1
 have hok := hulOk (openPre_zero hp).1
 have hn8 : h.ps.length ≤ 8 := by rw [← hbn]; exact hok.n8
 obtain ⟨hpt, htp⟩ : openPre b (toldL ar (twF h us) l) = 0 ∧ TruthP b (toldL ar (twF h us) l) (twF h us) := by rw [← hbe] at hp ⊢; exact told_fine hc hp hU.2
 have hwt : WtOk h.ps.length (twF h us) := by
  have := box_wt hok.ps htp.1
  rwa [hbn] at this
 have hwo : WghsOk h.ps.length l := by rw [← hbn]; exact wghsOk hp
 have HTO := Lq (told_any h.ps.length AL l cL A1 (twF h us) c1 AR ar cR V.heap.size V hn8 hL hwo hT.ws hwt hU hR (Nat.le_refl _))
 have hto := truthF_of hk us
 have HTH := Lq hto
 have HFA : Hid (∀ N, IsTree b (toldL ar (twF h us) l) N → FinerH h (fineH h (spF h N)) ∧ chk5 (fineH h (spF h N)) = (0, 0, 0) ∧ TruthOf (fineH h (spF h N)) (rowW (twF h us) h.ps.length) (rowW (tlF h us) h.ps.length)) := Lq fun N hN => by
  rw [← hbe] at hN hpt htp
  exact fine_all hc hpt hN htp hto
 have HSP : Hid (∀ N i, i < h.ps.length → (spansV b N b.ps.length)[i]? = some (spF h N i)) := Lq fun N i hi => by
  unfold spansV spF
  rw [hbe, hbn, List.getElem?_map, List.getElem?_range hi]
  rfl
 have HOE : Hid (openE b (toldL ar (twF h us) l) = 0) := Lq (openE_zero hpt ⟨_, htp⟩)
 have HBD := Lq hB0
 have HH := Lq hH
 have HBR := Lq hb
 have HT5 := Lq hT
 have HCK := Lq hc
 have HIN := Lq (And.intro ha (And.intro htb hw))
 have HC : Hid (∀ W, BW V W → Blk W gh 24 #[.slice A h.ps.length cap, iv h.aft, iv h.fore] ∧ Blk W gx 30 #[s0, s1, .slice AR ar.length cR, .int .u16 ta, .int .u16 tb, .int .u16 wa] ∧ Blk W gb 40 #[.slice AP b.ps.length cP, .slice AJ b.js.length cJ, iv b.slo, iv b.shi, iv b.winch] ∧ Blk W gt 49 #[.slice A1 h.ps.length c1, .slice A2 h.ps.length c2]) := by
  exact Lq fun W hbW => ⟨hgh.same (hbW.block _ hgh.lt), hgx.same (hbW.block _ hgx.lt), hgb.same (hbW.block _ hgb.lt), hgt.same (hbW.block _ hgt.lt)⟩
 have HP : Hid (∀ W, BW V W → (W.cell? ⟨gh, 0, none⟩ = some (.slice A h.ps.length cap) ∧ W.cell? ⟨gh, 1, none⟩ = some (iv h.aft) ∧ W.cell? ⟨gh, 2, none⟩ = some (iv h.fore)) ∧ (W.cell? ⟨gt, 0, none⟩ = some (.slice A1 h.ps.length c1) ∧ W.cell? ⟨gx, 2, none⟩ = some (.slice AR ar.length cR)) ∧ (W.cell? ⟨gb, 0, none⟩ = some (.slice AP b.ps.length cP) ∧ W.cell? ⟨gb, 1, none⟩ = some (.slice AJ b.js.length cJ) ∧ W.cell? ⟨gb, 2, none⟩ = some (iv b.slo) ∧ W.cell? ⟨gb, 3, none⟩ = some (iv b.shi) ∧ W.cell? ⟨gb, 4, none⟩ = some (iv b.winch))) := Lq fun W hbW => by
  obtain ⟨k1, k2, k3, k4⟩ := HC.out W hbW
  exact ⟨⟨k1.cell 0, k1.cell 1, k1.cell 2⟩, ⟨k4.cell 0, k2.cell 2⟩, ⟨k3.cell 0, k3.cell 1, k3.cell 2, k3.cell 3, k3.cell 4⟩⟩
 obtain ⟨L, hLd⟩ := ex (toldL ar (twF h us) l)
 rw [hLd] at HTO HFA HOE
 have HBN := Lq hbn
 obtain ⟨⟨p0, p1, p2⟩, ⟨r0, r1⟩, f0, f1, f2, f3, f4⟩ := HP.out _ (belowR V)
 clear hB0 hgh hgx hgb hgt hH hb hT hbe hL hp hR hU hc ha htb hw hk hok hpt htp hwt hwo hto hLd hbn
 obtain ⟨cc, hcc⟩ : ∃ c, c = regionOf Tryz.f3 25 := ⟨_, rfl⟩
 rw [← hcc]
 conv at hcc => rhs; whnf
 subst hcc
 go_wp2_with fail
 refine HTO.out.mono ?_
 rintro e w1 ⟨hb, A9, c9, rfl, hR9, hl9, _⟩
 have X1 := Lq hb
 have HR9 := Lq (And.intro hR9 hl9)
 clear hb p0 p1 p2 r0 r1 f0 f1 f2 f3 f4 HTO hR9 hl9
 obtain ⟨_, _, f0, f1, f2, f3, f4⟩ := HP.out _ X1.out
 go_wp2_with fail
 refine (weights_any b AP AJ _ cP cJ A9 L c9 w1 (HBR.out.on X1.out) HR9.out.1 HR9.out.2 (Nat.le_refl _)).mono ?_
 rintro e w2 ⟨hb, hcase⟩
 rcases hcase with ⟨hne, _⟩ | ⟨_, _, _, N, AS, cS, hN, rfl, hown⟩
 ·exact absurd HOE.out hne
 have X2 := Lq (belowT X1.out hb)
 have HFN := Lq (HFA.out N hN)
 have hSR : RdN 2 encSp w2 w2.heap.size AS (spansV b N b.ps.length) := by
  have h2 : w2.ownsRow w1.heap.size 36 2 (.slice AS b.ps.length cS) (spansV b N b.ps.length).length ((spansV b N b.ps.length).flatMap encSp) := by rw [spansV_len]; exact hown
  obtain ⟨A', c', e1, h3, _⟩ := own_rdN encSp_len h2
  injection e1 with e1
  subst e1
  exact h3
 have HSR := Lq hSR
 have HSX := Lq (HSP.out N)
 obtain ⟨sp, hsp⟩ := ex (spF h N)
 rw [hsp] at HFN HSX
 obtain ⟨sps, hsps⟩ := ex (spansV b N b.ps.length)
 rw [hsps] at HSR HSX
 rw [HBN.out]
 clear hb hN hown hSR HOE HFA HSP hsp hsps f0 f1 f2 f3 f4 HR9
 obtain ⟨⟨p0, p1, p2⟩, _⟩ := HP.out _ X2.out
 obtain ⟨g3, hg3⟩ := ex w2.heap.size
 obtain ⟨W3, hW3⟩ := ex (w2.alloc (.cells #[.slice A h.ps.length cap, iv h.aft, iv h.fore] 24))
 have hb3 : BW w2 W3 := by rw [← hW3]; exact belowA (belowR _) _
 have k3 : Blk W3 g3 24 #[.slice A h.ps.length cap, iv h.aft, iv h.fore] := by rw [← hW3, ← hg3]; exact Blk.new w2 24 _
 obtain ⟨W4, hW4⟩ := ex (W3.setCell ⟨g3, 0, none⟩ (.slice none 0 0))
 have k4 : Blk W4 g3 24 #[.slice none 0 0, iv h.aft, iv h.fore] := by rw [← hW4]; exact k3.set_ 0 _
 have hb4 : BW w2 W4 := by rw [← hW4]; exact belowS hb3 (by rw [hg3]; exact Nat.le_refl _) _
 have hzv : V.heap.size ≤ g3 := by have := X2.out.size; omega
 have hz4 : g3 < W4.heap.size := k4.lt
 have K4 := Lq k4
 have X4 := Lq (belowT X2.out hb4)
 have HSR4 := Lq (HSR.out.below hb4 (Nat.le_refl _))
 have z0 := k3.c 0
 have y0 := k3.frozen 0
 have l3 := k3.lt
 have HZ : Hid (w2.heap.size = g3) := Lq hg3
 clear k3 hb3 k4 hb4
 go_wp2_with fail
 clear hW3 hW4 z0 y0 l3 hg3 p0 p1 p2
 go_loopw [22] (fun vi wr => ∃ (k : Nat) (vF : Value), k ≤ h.ps.length ∧ vi = iv k ∧ Hid (wr.ownsRow W4.heap.size 42 7 vF k ((fineTo h.ps sp k).flatMap encS)) ∧ Hid (Blk wr g3 24 #[vF, iv h.aft, iv h.fore]) ∧ Hid (OnlyAt W4 wr g3)) (fun vi _ => h.ps.length - (intOf vi).toNat)
 case atStart => exact ⟨0, _, Nat.zero_le _, rfl, Lq (World.ownsRow_nil _ _ _ _), K4, Lq (OnlyAt.refl _ _)⟩
 case round =>
  obtain ⟨k, vF, hkn, rfl, OWN, KF, HO⟩ := hrel
  have hzr := HO.out.size
  have hzw := X4.out.size
  have hHw : H5Rd W4 V.heap.size h A cap := HH.out.below X4.out (Nat.le_refl _)
  have hps : RdN 7 encS wr V.heap.size A h.ps := HO.out.rdN hHw.ps hzv
  have hsr : RdN 2 encSp wr g3 AS sps := HO.out.rdN (by rw [← HZ.out]; exact HSR4.out) (Nat.le_refl _)
  have hkz : Blk W4 gh 24 #[.slice A h.ps.length cap, iv h.aft, iv h.fore] := (HC.out _ X4.out).1
  have hgl : gh < V.heap.size := ((HC.out _ (belowR V)).1).lt
  have hbg : Blk wr gh 24 #[.slice A h.ps.length cap, iv h.aft, iv h.fore] := HO.out.blk hkz (by omega)
  have p0 := hbg.c 0
  by_cases hlt : k < h.ps.length
  ·obtain ⟨x, hx⟩ : ∃ x, h.ps[k]? = some x := ⟨_, List.getElem?_eq_getElem hlt⟩
   obtain ⟨bb, off, rfl, hbb, d0, d1, d2, d3, d4, d5, d6⟩ := stAt hps hx
   obtain ⟨s, hs⟩ := ex (sp k)
   have hsx := HSX.out k hlt
   rw [hs] at hsx
   obtain ⟨bs, os, rfl, hbs, hcs⟩ := hsr k s hsx
   have c0 : wr.cell? ⟨bs, os + k * 2, none⟩ = some (iv s.1) := hcs 0 _ rfl
   have c1 : wr.cell? ⟨bs, os + k * 2 + 1, none⟩ = some (iv s.2) := hcs 1 _ rfl
   have hfs : fineTo h.ps sp (k + 1) = fineTo h.ps sp k ++ [fineP x s] := by rw [← hs]; exact fineTo_succ hx
   have HFS := Lq hfs
   have hk0 : (0 : Int) ≤ (k : Int) := by omega
   have hkl : (k : Int) < (h.ps.length : Int) := by omega
   obtain ⟨nm, pos, wlo, whi, keel, llo, lhi⟩ := x
   obtain ⟨sa, sb⟩ := s
   simp only at d0 d1 d2 d3 d4 d5 d6 c0 c1
   obtain ⟨g5, hg5⟩ := ex wr.heap.size
   obtain ⟨W5, hW5⟩ := ex (wr.alloc (.cells #[.string nm, iv pos, iv wlo, iv whi, iv keel, iv llo, iv lhi] 42))
   have hb5 : BW wr W5 := by rw [← hW5]; exact belowA (belowR _) _
   have k5 : Blk W5 g5 42 #[.string nm, iv pos, iv wlo, iv whi, iv keel, iv llo, iv lhi] := by rw [← hW5, ← hg5]; exact Blk.new wr 42 _
   obtain ⟨W6, hW6⟩ := ex ((W5.setCell ⟨g5, 2, none⟩ (iv sa)).setCell ⟨g5, 3, none⟩ (iv sb))
   have k6 : Blk W6 g5 42 #[.string nm, iv pos, iv sa, iv sb, iv keel, iv llo, iv lhi] := by rw [← hW6]; exact (k5.set_ 2 _).set_ 3 _
   have hb6 : BW wr W6 := by rw [← hW6]; exact belowS (belowS hb5 (by rw [hg5]; exact Nat.le_refl _) _) (by rw [hg5]; exact Nat.le_refl _) _
   have kf6 : Blk W6 g3 24 #[vF, iv h.aft, iv h.fore] := KF.out.same (hb6.block _ KF.out.lt)
   have HAL := Lq ((own_below OWN.out hb6).alloc (.cells #[.string nm, iv pos, iv sa, iv sb, iv keel, iv llo, iv lhi] 42))
   have HO6 := Lq ((HO.out.more hb6).alloc (.cells #[.string nm, iv pos, iv sa, iv sb, iv keel, iv llo, iv lhi] 42))
   have q5 := k5.frozen 2
   have q6 := k5.frozen 3
   have l5 := k5.lt
   have e2 := k5.c 2
   have e3 := k5.c 3
   have m0 := k6.c 0
   have m1 := k6.c 1
   have m2 := k6.c 2
   have m3 := k6.c 3
   have m4 := k6.c 4
   have m5 := k6.c 5
   have m6 := k6.c 6
   have kf0 := kf6.c 0
   have kc0 := keepC hb5 c0
   have kc1 := keepC hb5 c1
   have hvb : ∀ g, vF.ownBlock = some g → g3 ≠ g := fun g e => by have := (OWN.out.lt g e).1; omega
   have KF6 := Lq (kf6.alloc (.cells #[.string nm, iv pos, iv sa, iv sb, iv keel, iv llo, iv lhi] 42))
   have HVB := Lq hvb
   have HL6 := Lq (Blk.new W6 42 #[.string nm, iv pos, iv sa, iv sb, iv keel, iv llo, iv lhi])
   obtain ⟨i42, hi42, hz0, hz1, hz2⟩ := info_parts Tryz.info42
   have hz6 := hb6.size
   clear hx hsx hfs hs hb5 k5 hb6 k6 kf6 hHw hps hsr hkz hbg hcs hvb
   go_wp2_with (at_builtin; refine wpList_append_own _ rfl _ _ 22 rfl W4.heap.size 42 i42 (.agg #[.string ⟨#[]⟩, iv 0, iv 0, iv 0, iv 0, iv 0, iv 0]) 7 64 Tryz.underlying22 hi42 hz0 hz1 hz2 rfl (by decide) _ _ _ rfl HAL.out ⟨W6.heap.size, 0, none⟩ 1 1 [.string nm, iv pos, iv sa, iv sb, iv keel, iv llo, iv lhi] rfl rfl ?d1 ?d2 ?d3 ?d4 ?d5 ?_)
   case d1 => exact news_blkN HL6.out
   case d2 => simp [Value.oneCell']
   case d3 => unfold maxLen; omega
   case d4 => omega
   case d5 => simp only [World.size_alloc]; omega
   intro v10 w10 hown10 hg10 _
   obtain ⟨g10, c10, rfl, _, _, _⟩ := own_form hown10 (Nat.succ_pos k)
   have kx := KF6.out.grown hg10 (fun e => HVB.out g3 e.symm rfl)
   have HO10 := Lq (HO6.out.grown HAL.out hg10 (Nat.le_refl _))
   have x0 := kx.c 0
   have xf := kx.frozen 0
   have xl := kx.lt
   obtain ⟨wx, hwx⟩ := ex (w10.setCell ⟨g3, 0, none⟩ (.slice (some ⟨g10, 0, none⟩) (k + 1) c10))
   have hne : (Value.slice (some ⟨g10, 0, none⟩) (k + 1) c10).ownBlock ≠ some g3 := fun e => by have := (hown10.lt g3 e).1; omega
   have hox : OnlyAt w10 wx g3 := by rw [← hwx]; exact OnlyAt.of_set (belowR w10) g3 0 _
   have HREL : Hid (wx.ownsRow W4.heap.size 42 7 (.slice (some ⟨g10, 0, none⟩) (k + 1) c10) (k + 1) ((fineTo h.ps sp (k + 1)).flatMap encS) ∧ Blk wx g3 24 #[.slice (some ⟨g10, 0, none⟩) (k + 1) c10, iv h.aft, iv h.fore] ∧ OnlyAt W4 wx g3) := Lq ⟨by rw [HFS.out, List.flatMap_append]; exact hox.own hown10 hne, by rw [← hwx]; exact kx.set_ 0 _, HO10.out.trans hox⟩
   clear hown10 hg10 kx hne hox KF6 HAL HO6 HVB HL6
   go_wp2_with fail
   go_roundw
   case rel => exact ⟨k + 1, _, by omega, by go_num, Lq HREL.out.1, Lq HREL.out.2.1, Lq HREL.out.2.2⟩
   case measure => simp [intOf]; omega
  ·obtain rfl : k = h.ps.length := by omega
   have HWR := Lq hHw
   clear hps hsr hkz hbg hHw
   obtain ⟨hF1, hF2, hF3⟩ := HFN.out
   obtain ⟨i1, i2, i3⟩ := HIN.out
   have hbv : BW V wr := HO.out.below X4.out hzv
   obtain ⟨kk1, kk2, _, kk4⟩ := HC.out _ hbv
   have hown : wr.ownsRow W4.heap.size 42 7 vF (fineTo h.ps sp h.ps.length).length ((fineTo h.ps sp h.ps.length).flatMap encS) := by rw [fineTo_len _ (Nat.le_refl _)]; exact OWN.out
   obtain ⟨AF, cF, hvf, hRF, _, hc1, hc2⟩ := own_rdN encS_len hown
   have hfl := fineH_len h sp
   have hkf := KF.out
   rw [hvf] at hkf
   have hHF : H5Rd wr wr.heap.size (fineH h sp) AF cF := ⟨hRF, hc1, hc2, fun p hp => by
    have hm : p.name ∈ (fineH h sp).ps.map StP.name := List.mem_map.2 ⟨p, hp, rfl⟩
    rw [hF1.names] at hm
    obtain ⟨q, hq, e⟩ := List.mem_map.1 hm
    rw [← e]
    exact HH.out.nm q hq⟩
   have hHh : H5Rd wr wr.heap.size h A cap := HH.out.on hbv
   have hTT : T5Rd wr wr.heap.size (rowW (twF h us) h.ps.length) (rowW (tlF h us) h.ps.length) A1 A2 := HT5.out.on hbv
   have e1 := rowW_len (twF h us) h.ps.length
   have e2 := rowW_len (tlF h us) h.ps.length
   have kk4b : Blk wr gt 49 #[.slice A1 (rowW (twF h us) h.ps.length).length c1, .slice A2 (rowW (tlF h us) h.ps.length).length c2] := by rw [e1, e2]; exact kk4
   have hbw : BW w0 wr := belowT HBD.out hbv
   have FIN1 := Lq (And.intro hbw (And.intro kk1 (And.intro kk2 (And.intro kk4b (And.intro hkf (And.intro hHh (And.intro hHF (And.intro hTT (And.intro hF1 (And.intro hF2 hF3))))))))))
   clear hF1 hF2 hF3 hbv kk1 kk2 kk4 hown hvf hRF hc1 hc2 hfl hkf hHF hHh hTT e1 e2 kk4b hbw
   go_upto_region 37 with fail
   obtain ⟨t1, t2, t3, t4, t5, t6, t7, t8, t9, t10, t11⟩ := FIN1.out
   exact f3_37 (f := fineH h sp) (by assumption) t1 t2 t3 t4 t5 t6 t7 t8 t9 HCK.out t10 HTH.out t11 i1 i2 i3
noncomputable def ops3_19 : Array Oper := opsOf (regionOf Tryz.f3 19)
theorem reg3_19 {Q : Exit → Act → World → Prop} {V : World} {gx gh b o1 NB cap k N capN : Nat} {A : Option Addr} {v F : Int} {z0 z1 z4 z5 z6 z7 z8 z9 z10 z11 z12 z13 z14 z16 z17 z18 z19 z20 z21 z22 z23 z24 z25 z26 z27 z28 z29 z30 z31 z32 z33 z34 z35 z36 z37 z38 z39 z40 z41 z42 z43 z44 z45 z46 z47 z48 z49 z50 z51 z52 z53 z54 z55 z56 z57 z58 z59 z60 z61 z62 z63 z64 z65 z66 z67 z68 z69 z70 z71 z72 z73 z74 z75 z76 z77 z78 z79 z80 z81 z82 z83 z84 z85 z86 z87 z88 z89 z90 z91 z92 z93 z94 z95 z96 z97 z98 z99 z100 z101 z102 z103 z104 z105 z106 z107 z108 z109 z110 z111 z112 z113 z114 z115 z116 z117 z118 z119 z120 z121 z122 z123 z124 z125 z126 z127 z128 z129 z130 z131 z132 z133 z134 z135 z136 z137 z138 z139 z140 z141 z142 z143 z144 z145 z146 z147 z148 z149 z150 z151 z152 z153 z154 z155 z156 z157 z158 z159 z160 z161 z162 z163 z164 z165 z166 z167 z168 z169 z170 z171 z172 z173 z174 z175 z176 z177 z178 z179 z180 z181 z182 z183 z184 z185 z186 z187 z188 z189 z190 z191 z192 z193 z194 z195 z196 z197 z198 z199 z200 z201 z202 z203 z204 z205 z206 z207 z208 z209 z210 z211 z212 z213 z214 z215 z216 z217 z218 z219 z220 z221 z222 z223 z224 z225 z226 z227 z228 z229 z230 z231 z232 z233 z234 z235 z236 z237 z238 z239 z240 z241 z242 z243 z244 z245 z246 z247 z248 z249 z250 z251 z252 z253 z254 z255 z256 z257 z258 z259 z260 z261 z262 z263 z264 z265 z266 z267 z268 z269 z270 z271 z272 z273 z274 z275 z276 z277 z278 z279 z280 z281 z282 z283 z284 z285 z286 z287 z288 z289 z290 z291 z292 z293 z294 z295 z296 z297 z298 z299 z300 z301 z302 z303 z304 z305 z306 z307 z308 z309 z310 z311 z312 z313 z314 z315 z316 z317 z318 z319 z320 z321 z322 : Value} (hkN : k < NB) (hwv : IntKind.i64.wrap v = v) (hN : 0 < N) (hF : v.tmod N = F)
  (hS : ∀ W, BW V W → W.cell? ⟨gx, 0, none⟩ = some (.slice (some ⟨b, o1, none⟩) NB cap) ∧ W.cell? ⟨b, o1 + k, none⟩ = some (.int .u8 v) ∧ W.cell? ⟨gh, 0, none⟩ = some (.slice A N capN))
  (hQ : ∀  u113 u114 u115 u116 u117 u118 u119 u120 u121 u122 wx, BW V wx → Q .normal ⟨((z0 :: z1 :: (.pointer (some ⟨gh, 0, none⟩)) :: (.pointer (some ⟨gx, 0, none⟩)) :: z4 :: z5 :: z6 :: z7 :: z8 :: z9 :: z10 :: z11 :: z12 :: z13 :: z14 :: (iv k) :: (iv F) :: z17 :: z18 :: z19 :: z20 :: z21 :: z22 :: z23 :: z24 :: z25 :: z26 :: z27 :: z28 :: z29 :: z30 :: z31 :: z32 :: z33 :: z34 :: z35 :: z36 :: z37 :: z38 :: z39 :: z40 :: z41 :: z42 :: z43 :: z44 :: z45 :: z46 :: z47 :: z48 :: z49 :: z50 :: z51 :: z52 :: z53 :: z54 :: z55 :: z56 :: z57 :: z58 :: z59 :: z60 :: z61 :: z62 :: z63 :: z64 :: z65 :: z66 :: z67 :: z68 :: z69 :: z70 :: z71 :: z72 :: z73 :: z74 :: z75 :: z76 :: z77 :: z78 :: z79 :: z80 :: z81 :: z82 :: z83 :: z84 :: z85 :: z86 :: z87 :: z88 :: z89 :: z90 :: z91 :: z92 :: z93 :: z94 :: z95 :: z96 :: z97 :: z98 :: z99 :: z100 :: z101 :: z102 :: z103 :: z104 :: z105 :: z106 :: z107 :: z108 :: z109 :: z110 :: z111 :: z112 :: u113 :: u114 :: u115 :: u116 :: u117 :: u118 :: u119 :: u120 :: u121 :: u122 :: z123 :: z124 :: z125 :: z126 :: z127 :: z128 :: z129 :: z130 :: z131 :: z132 :: z133 :: z134 :: z135 :: z136 :: z137 :: z138 :: z139 :: z140 :: z141 :: z142 :: z143 :: z144 :: z145 :: z146 :: z147 :: z148 :: z149 :: z150 :: z151 :: z152 :: z153 :: z154 :: z155 :: z156 :: z157 :: z158 :: z159 :: z160 :: z161 :: z162 :: z163 :: z164 :: z165 :: z166 :: z167 :: z168 :: z169 :: z170 :: z171 :: z172 :: z173 :: z174 :: z175 :: z176 :: z177 :: z178 :: z179 :: z180 :: z181 :: z182 :: z183 :: z184 :: z185 :: z186 :: z187 :: z188 :: z189 :: z190 :: z191 :: z192 :: z193 :: z194 :: z195 :: z196 :: z197 :: z198 :: z199 :: z200 :: z201 :: z202 :: z203 :: z204 :: z205 :: z206 :: z207 :: z208 :: z209 :: z210 :: z211 :: z212 :: z213 :: z214 :: z215 :: z216 :: z217 :: z218 :: z219 :: z220 :: z221 :: z222 :: z223 :: z224 :: z225 :: z226 :: z227 :: z228 :: z229 :: z230 :: z231 :: z232 :: z233 :: z234 :: z235 :: z236 :: z237 :: z238 :: z239 :: z240 :: z241 :: z242 :: z243 :: z244 :: z245 :: z246 :: z247 :: z248 :: z249 :: z250 :: z251 :: z252 :: z253 :: z254 :: z255 :: z256 :: z257 :: z258 :: z259 :: z260 :: z261 :: z262 :: z263 :: z264 :: z265 :: z266 :: z267 :: z268 :: z269 :: z270 :: z271 :: z272 :: z273 :: z274 :: z275 :: z276 :: z277 :: z278 :: z279 :: z280 :: z281 :: z282 :: z283 :: z284 :: z285 :: z286 :: z287 :: z288 :: z289 :: z290 :: z291 :: z292 :: z293 :: z294 :: z295 :: z296 :: z297 :: z298 :: z299 :: z300 :: z301 :: z302 :: z303 :: z304 :: z305 :: z306 :: z307 :: z308 :: z309 :: z310 :: z311 :: z312 :: z313 :: z314 :: z315 :: z316 :: z317 :: z318 :: z319 :: z320 :: z321 :: z322 :: [] : List Value).toArray), []⟩ wx) :
  (regionOf Tryz.f3 19).wp Tryz.prog Q ⟨((z0 :: z1 :: (.pointer (some ⟨gh, 0, none⟩)) :: (.pointer (some ⟨gx, 0, none⟩)) :: z4 :: z5 :: z6 :: z7 :: z8 :: z9 :: z10 :: z11 :: z12 :: z13 :: z14 :: (iv k) :: z16 :: z17 :: z18 :: z19 :: z20 :: z21 :: z22 :: z23 :: z24 :: z25 :: z26 :: z27 :: z28 :: z29 :: z30 :: z31 :: z32 :: z33 :: z34 :: z35 :: z36 :: z37 :: z38 :: z39 :: z40 :: z41 :: z42 :: z43 :: z44 :: z45 :: z46 :: z47 :: z48 :: z49 :: z50 :: z51 :: z52 :: z53 :: z54 :: z55 :: z56 :: z57 :: z58 :: z59 :: z60 :: z61 :: z62 :: z63 :: z64 :: z65 :: z66 :: z67 :: z68 :: z69 :: z70 :: z71 :: z72 :: z73 :: z74 :: z75 :: z76 :: z77 :: z78 :: z79 :: z80 :: z81 :: z82 :: z83 :: z84 :: z85 :: z86 :: z87 :: z88 :: z89 :: z90 :: z91 :: z92 :: z93 :: z94 :: z95 :: z96 :: z97 :: z98 :: z99 :: z100 :: z101 :: z102 :: z103 :: z104 :: z105 :: z106 :: z107 :: z108 :: z109 :: z110 :: z111 :: z112 :: z113 :: z114 :: z115 :: z116 :: z117 :: z118 :: z119 :: z120 :: z121 :: z122 :: z123 :: z124 :: z125 :: z126 :: z127 :: z128 :: z129 :: z130 :: z131 :: z132 :: z133 :: z134 :: z135 :: z136 :: z137 :: z138 :: z139 :: z140 :: z141 :: z142 :: z143 :: z144 :: z145 :: z146 :: z147 :: z148 :: z149 :: z150 :: z151 :: z152 :: z153 :: z154 :: z155 :: z156 :: z157 :: z158 :: z159 :: z160 :: z161 :: z162 :: z163 :: z164 :: z165 :: z166 :: z167 :: z168 :: z169 :: z170 :: z171 :: z172 :: z173 :: z174 :: z175 :: z176 :: z177 :: z178 :: z179 :: z180 :: z181 :: z182 :: z183 :: z184 :: z185 :: z186 :: z187 :: z188 :: z189 :: z190 :: z191 :: z192 :: z193 :: z194 :: z195 :: z196 :: z197 :: z198 :: z199 :: z200 :: z201 :: z202 :: z203 :: z204 :: z205 :: z206 :: z207 :: z208 :: z209 :: z210 :: z211 :: z212 :: z213 :: z214 :: z215 :: z216 :: z217 :: z218 :: z219 :: z220 :: z221 :: z222 :: z223 :: z224 :: z225 :: z226 :: z227 :: z228 :: z229 :: z230 :: z231 :: z232 :: z233 :: z234 :: z235 :: z236 :: z237 :: z238 :: z239 :: z240 :: z241 :: z242 :: z243 :: z244 :: z245 :: z246 :: z247 :: z248 :: z249 :: z250 :: z251 :: z252 :: z253 :: z254 :: z255 :: z256 :: z257 :: z258 :: z259 :: z260 :: z261 :: z262 :: z263 :: z264 :: z265 :: z266 :: z267 :: z268 :: z269 :: z270 :: z271 :: z272 :: z273 :: z274 :: z275 :: z276 :: z277 :: z278 :: z279 :: z280 :: z281 :: z282 :: z283 :: z284 :: z285 :: z286 :: z287 :: z288 :: z289 :: z290 :: z291 :: z292 :: z293 :: z294 :: z295 :: z296 :: z297 :: z298 :: z299 :: z300 :: z301 :: z302 :: z303 :: z304 :: z305 :: z306 :: z307 :: z308 :: z309 :: z310 :: z311 :: z312 :: z313 :: z314 :: z315 :: z316 :: z317 :: z318 :: z319 :: z320 :: z321 :: z322 :: [] : List Value).toArray), []⟩ V := by
 have hk0 : (0 : Int) ≤ (k : Int) := by omega
 have hkz : (k : Int) < (NB : Int) := by omega
 have HS := Lq hS
 have HQ := Lq hQ
 clear hQ
 refine go0 (ops := ops3_19) (r := 19) (n := 11) hS fun V0 HB0 hHeld => ?_
 clear hS
 refine tk 0 (.pointer (some ⟨gx, 0, none⟩)) ?_
 refine tk 2 (iv k) ?_
 refine tk 6 (.pointer (some ⟨gh, 0, none⟩)) ?_
 refine tk 1 (.slice (some ⟨b, o1, none⟩) NB cap) ?_
 refine tk 7 (.slice A N capN) ?_
 refine tk 3 (.pointer (some ⟨b, o1 + k, none⟩)) ?_
 refine tk 8 (iv N) ?_
 refine tk 4 (.int .u8 v) ?_
 refine tk 5 (iv v) ?_
 refine tkO 9 (iv F) ?_
 refine tk 10 (iv F) ?_
 refine wpAnyH_done (by kernel_rfl) ?_ _
 exact NoPanic.normal (HQ.out _ _ _ _ _ _ _ _ _ _ _ HB0.out)
noncomputable def ops3_20 : Array Oper := opsOf (regionOf Tryz.f3 20)
theorem reg3_20 {Q : Exit → Act → World → Prop} {V : World} {gx gh b o1 NB cap k N capN : Nat} {A : Option Addr} {v F q D R M : Int} {z0 z1 z4 z5 z6 z7 z8 z9 z10 z11 z12 z13 z14 z17 z18 z19 z20 z21 z22 z23 z24 z25 z26 z27 z28 z29 z30 z31 z32 z33 z34 z35 z36 z37 z38 z39 z40 z41 z42 z43 z44 z45 z46 z47 z48 z49 z50 z51 z52 z53 z54 z55 z56 z57 z58 z59 z60 z61 z62 z63 z64 z65 z66 z67 z68 z69 z70 z71 z72 z73 z74 z75 z76 z77 z78 z79 z80 z81 z82 z83 z84 z85 z86 z87 z88 z89 z90 z91 z92 z93 z94 z95 z96 z97 z98 z99 z100 z101 z102 z103 z104 z105 z106 z107 z108 z109 z110 z111 z112 z113 z114 z115 z116 z117 z118 z119 z120 z121 z122 z123 z124 z125 z126 z127 z128 z129 z130 z131 z132 z133 z134 z135 z136 z137 z138 z139 z140 z141 z142 z143 z144 z145 z146 z147 z148 z149 z150 z151 z152 z153 z154 z155 z156 z157 z158 z159 z160 z161 z162 z163 z164 z165 z166 z167 z168 z169 z170 z171 z172 z173 z174 z175 z176 z177 z178 z179 z180 z181 z182 z183 z184 z185 z186 z187 z188 z189 z190 z191 z192 z193 z194 z195 z196 z197 z198 z199 z200 z201 z202 z203 z204 z205 z206 z207 z208 z209 z210 z211 z212 z213 z214 z215 z216 z217 z218 z219 z220 z221 z222 z223 z224 z225 z226 z227 z228 z229 z230 z231 z232 z233 z234 z235 z236 z237 z238 z239 z240 z241 z242 z243 z244 z245 z246 z247 z248 z249 z250 z251 z252 z253 z254 z255 z256 z257 z258 z259 z260 z261 z262 z263 z264 z265 z266 z267 z268 z269 z270 z271 z272 z273 z274 z275 z276 z277 z278 z279 z280 z281 z282 z283 z284 z285 z286 z287 z288 z289 z290 z291 z292 z293 z294 z295 z296 z297 z298 z299 z300 z301 z302 z303 z304 z305 z306 z307 z308 z309 z310 z311 z312 z313 z314 z315 z316 z317 z318 z319 z320 z321 z322 : Value} (hkN : k < NB) (hwv : IntKind.i64.wrap v = v) (hq : v.tdiv 16 = q) (hwq : IntKind.i64.wrap q = q) (hD : IntKind.i64.wrap ((N : Int) - F) = D) (hD0 : 0 < D) (hR : q.tmod D = R) (hM : IntKind.i64.wrap (1 + R) = M)
  (hS : ∀ W, BW V W → W.cell? ⟨gx, 0, none⟩ = some (.slice (some ⟨b, o1, none⟩) NB cap) ∧ W.cell? ⟨b, o1 + k, none⟩ = some (.int .u8 v) ∧ W.cell? ⟨gh, 0, none⟩ = some (.slice A N capN))
  (hQ : ∀  u123 u124 u125 u126 u127 u128 u129 u130 u131 u132 u133 u134 u135 u136 wx, BW V wx → Q .normal ⟨((z0 :: z1 :: (.pointer (some ⟨gh, 0, none⟩)) :: (.pointer (some ⟨gx, 0, none⟩)) :: z4 :: z5 :: z6 :: z7 :: z8 :: z9 :: z10 :: z11 :: z12 :: z13 :: z14 :: (iv k) :: (iv F) :: (iv M) :: z18 :: z19 :: z20 :: z21 :: z22 :: z23 :: z24 :: z25 :: z26 :: z27 :: z28 :: z29 :: z30 :: z31 :: z32 :: z33 :: z34 :: z35 :: z36 :: z37 :: z38 :: z39 :: z40 :: z41 :: z42 :: z43 :: z44 :: z45 :: z46 :: z47 :: z48 :: z49 :: z50 :: z51 :: z52 :: z53 :: z54 :: z55 :: z56 :: z57 :: z58 :: z59 :: z60 :: z61 :: z62 :: z63 :: z64 :: z65 :: z66 :: z67 :: z68 :: z69 :: z70 :: z71 :: z72 :: z73 :: z74 :: z75 :: z76 :: z77 :: z78 :: z79 :: z80 :: z81 :: z82 :: z83 :: z84 :: z85 :: z86 :: z87 :: z88 :: z89 :: z90 :: z91 :: z92 :: z93 :: z94 :: z95 :: z96 :: z97 :: z98 :: z99 :: z100 :: z101 :: z102 :: z103 :: z104 :: z105 :: z106 :: z107 :: z108 :: z109 :: z110 :: z111 :: z112 :: z113 :: z114 :: z115 :: z116 :: z117 :: z118 :: z119 :: z120 :: z121 :: z122 :: u123 :: u124 :: u125 :: u126 :: u127 :: u128 :: u129 :: u130 :: u131 :: u132 :: u133 :: u134 :: u135 :: u136 :: z137 :: z138 :: z139 :: z140 :: z141 :: z142 :: z143 :: z144 :: z145 :: z146 :: z147 :: z148 :: z149 :: z150 :: z151 :: z152 :: z153 :: z154 :: z155 :: z156 :: z157 :: z158 :: z159 :: z160 :: z161 :: z162 :: z163 :: z164 :: z165 :: z166 :: z167 :: z168 :: z169 :: z170 :: z171 :: z172 :: z173 :: z174 :: z175 :: z176 :: z177 :: z178 :: z179 :: z180 :: z181 :: z182 :: z183 :: z184 :: z185 :: z186 :: z187 :: z188 :: z189 :: z190 :: z191 :: z192 :: z193 :: z194 :: z195 :: z196 :: z197 :: z198 :: z199 :: z200 :: z201 :: z202 :: z203 :: z204 :: z205 :: z206 :: z207 :: z208 :: z209 :: z210 :: z211 :: z212 :: z213 :: z214 :: z215 :: z216 :: z217 :: z218 :: z219 :: z220 :: z221 :: z222 :: z223 :: z224 :: z225 :: z226 :: z227 :: z228 :: z229 :: z230 :: z231 :: z232 :: z233 :: z234 :: z235 :: z236 :: z237 :: z238 :: z239 :: z240 :: z241 :: z242 :: z243 :: z244 :: z245 :: z246 :: z247 :: z248 :: z249 :: z250 :: z251 :: z252 :: z253 :: z254 :: z255 :: z256 :: z257 :: z258 :: z259 :: z260 :: z261 :: z262 :: z263 :: z264 :: z265 :: z266 :: z267 :: z268 :: z269 :: z270 :: z271 :: z272 :: z273 :: z274 :: z275 :: z276 :: z277 :: z278 :: z279 :: z280 :: z281 :: z282 :: z283 :: z284 :: z285 :: z286 :: z287 :: z288 :: z289 :: z290 :: z291 :: z292 :: z293 :: z294 :: z295 :: z296 :: z297 :: z298 :: z299 :: z300 :: z301 :: z302 :: z303 :: z304 :: z305 :: z306 :: z307 :: z308 :: z309 :: z310 :: z311 :: z312 :: z313 :: z314 :: z315 :: z316 :: z317 :: z318 :: z319 :: z320 :: z321 :: z322 :: [] : List Value).toArray), []⟩ wx) :
  (regionOf Tryz.f3 20).wp Tryz.prog Q ⟨((z0 :: z1 :: (.pointer (some ⟨gh, 0, none⟩)) :: (.pointer (some ⟨gx, 0, none⟩)) :: z4 :: z5 :: z6 :: z7 :: z8 :: z9 :: z10 :: z11 :: z12 :: z13 :: z14 :: (iv k) :: (iv F) :: z17 :: z18 :: z19 :: z20 :: z21 :: z22 :: z23 :: z24 :: z25 :: z26 :: z27 :: z28 :: z29 :: z30 :: z31 :: z32 :: z33 :: z34 :: z35 :: z36 :: z37 :: z38 :: z39 :: z40 :: z41 :: z42 :: z43 :: z44 :: z45 :: z46 :: z47 :: z48 :: z49 :: z50 :: z51 :: z52 :: z53 :: z54 :: z55 :: z56 :: z57 :: z58 :: z59 :: z60 :: z61 :: z62 :: z63 :: z64 :: z65 :: z66 :: z67 :: z68 :: z69 :: z70 :: z71 :: z72 :: z73 :: z74 :: z75 :: z76 :: z77 :: z78 :: z79 :: z80 :: z81 :: z82 :: z83 :: z84 :: z85 :: z86 :: z87 :: z88 :: z89 :: z90 :: z91 :: z92 :: z93 :: z94 :: z95 :: z96 :: z97 :: z98 :: z99 :: z100 :: z101 :: z102 :: z103 :: z104 :: z105 :: z106 :: z107 :: z108 :: z109 :: z110 :: z111 :: z112 :: z113 :: z114 :: z115 :: z116 :: z117 :: z118 :: z119 :: z120 :: z121 :: z122 :: z123 :: z124 :: z125 :: z126 :: z127 :: z128 :: z129 :: z130 :: z131 :: z132 :: z133 :: z134 :: z135 :: z136 :: z137 :: z138 :: z139 :: z140 :: z141 :: z142 :: z143 :: z144 :: z145 :: z146 :: z147 :: z148 :: z149 :: z150 :: z151 :: z152 :: z153 :: z154 :: z155 :: z156 :: z157 :: z158 :: z159 :: z160 :: z161 :: z162 :: z163 :: z164 :: z165 :: z166 :: z167 :: z168 :: z169 :: z170 :: z171 :: z172 :: z173 :: z174 :: z175 :: z176 :: z177 :: z178 :: z179 :: z180 :: z181 :: z182 :: z183 :: z184 :: z185 :: z186 :: z187 :: z188 :: z189 :: z190 :: z191 :: z192 :: z193 :: z194 :: z195 :: z196 :: z197 :: z198 :: z199 :: z200 :: z201 :: z202 :: z203 :: z204 :: z205 :: z206 :: z207 :: z208 :: z209 :: z210 :: z211 :: z212 :: z213 :: z214 :: z215 :: z216 :: z217 :: z218 :: z219 :: z220 :: z221 :: z222 :: z223 :: z224 :: z225 :: z226 :: z227 :: z228 :: z229 :: z230 :: z231 :: z232 :: z233 :: z234 :: z235 :: z236 :: z237 :: z238 :: z239 :: z240 :: z241 :: z242 :: z243 :: z244 :: z245 :: z246 :: z247 :: z248 :: z249 :: z250 :: z251 :: z252 :: z253 :: z254 :: z255 :: z256 :: z257 :: z258 :: z259 :: z260 :: z261 :: z262 :: z263 :: z264 :: z265 :: z266 :: z267 :: z268 :: z269 :: z270 :: z271 :: z272 :: z273 :: z274 :: z275 :: z276 :: z277 :: z278 :: z279 :: z280 :: z281 :: z282 :: z283 :: z284 :: z285 :: z286 :: z287 :: z288 :: z289 :: z290 :: z291 :: z292 :: z293 :: z294 :: z295 :: z296 :: z297 :: z298 :: z299 :: z300 :: z301 :: z302 :: z303 :: z304 :: z305 :: z306 :: z307 :: z308 :: z309 :: z310 :: z311 :: z312 :: z313 :: z314 :: z315 :: z316 :: z317 :: z318 :: z319 :: z320 :: z321 :: z322 :: [] : List Value).toArray), []⟩ V := by
 have hk0 : (0 : Int) ≤ (k : Int) := by omega
 have hkz : (k : Int) < (NB : Int) := by omega
 have HS := Lq hS
 have HQ := Lq hQ
 clear hQ
 refine go0 (ops := ops3_20) (r := 20) (n := 15) hS fun V0 HB0 hHeld => ?_
 clear hS
 refine tk 0 (.pointer (some ⟨gx, 0, none⟩)) ?_
 refine tk 2 (iv k) ?_
 refine tk 7 (.pointer (some ⟨gh, 0, none⟩)) ?_
 refine tk 10 (iv F) ?_
 refine tk 1 (.slice (some ⟨b, o1, none⟩) NB cap) ?_
 refine tk 8 (.slice A N capN) ?_
 refine tk 3 (.pointer (some ⟨b, o1 + k, none⟩)) ?_
 refine tk 9 (iv N) ?_
 refine tk 4 (.int .u8 v) ?_
 refine tk 11 (iv D) ?_
 refine tk 5 (iv v) ?_
 refine tk 6 (iv q) ?_
 refine tkO 12 (iv R) ?_
 refine tk 13 (iv M) ?_
 refine tk 14 (iv M) ?_
 refine wpAnyH_done (by kernel_rfl) ?_ _
 exact NoPanic.normal (HQ.out _ _ _ _ _ _ _ _ _ _ _ _ _ _ _ HB0.out)
noncomputable def ops3_22 : Array Oper := opsOf (regionOf Tryz.f3 22)
theorem reg3_22 {Q : Exit → Act → World → Prop} {V : World} {gy k1 : Nat} {s1 : Value} {C1 : List Value} {a lo hi : Int} {z0 z1 z2 z3 z4 z5 z6 z7 z8 z9 z10 z11 z12 z13 z15 z16 z17 z19 z20 z21 z22 z23 z24 z25 z26 z27 z28 z29 z30 z31 z32 z33 z34 z35 z36 z37 z38 z39 z40 z41 z42 z43 z44 z45 z46 z47 z48 z49 z50 z51 z52 z53 z54 z55 z56 z57 z58 z59 z60 z61 z62 z63 z64 z65 z66 z67 z68 z69 z70 z71 z72 z73 z74 z75 z76 z77 z78 z79 z80 z81 z82 z83 z84 z85 z86 z87 z88 z89 z90 z91 z92 z93 z94 z95 z96 z97 z98 z99 z100 z101 z102 z103 z104 z105 z106 z107 z108 z109 z110 z111 z112 z113 z114 z115 z116 z117 z118 z119 z120 z121 z122 z123 z124 z125 z126 z127 z128 z129 z130 z131 z132 z133 z134 z135 z136 z137 z138 z139 z140 z141 z142 z143 z144 z145 z146 z147 z148 z149 z150 z151 z152 z153 z154 z155 z156 z157 z158 z159 z160 z161 z162 z163 z164 z165 z166 z167 z168 z169 z170 z171 z172 z173 z174 z175 z176 z177 z178 z179 z180 z181 z182 z183 z184 z185 z186 z187 z188 z189 z190 z191 z192 z193 z194 z195 z196 z197 z198 z199 z200 z201 z202 z203 z204 z205 z206 z207 z208 z209 z210 z211 z212 z213 z214 z215 z216 z217 z218 z219 z220 z221 z222 z223 z224 z225 z226 z227 z228 z229 z230 z231 z232 z233 z234 z235 z236 z237 z238 z239 z240 z241 z242 z243 z244 z245 z246 z247 z248 z249 z250 z251 z252 z253 z254 z255 z256 z257 z258 z259 z260 z261 z262 z263 z264 z265 z266 z267 z268 z269 z270 z271 z272 z273 z274 z275 z276 z277 z278 z279 z280 z281 z282 z283 z284 z285 z286 z287 z288 z289 z290 z291 z292 z293 z294 z295 z296 z297 z298 z299 z300 z301 z302 z303 z304 z305 z306 z307 z308 z309 z310 z311 z312 z313 z314 z315 z316 z317 z318 z319 z320 z321 z322 : Value} (hk1 : k1 ≤ 9) (hC1 : Srcs V 3 s1 k1 C1)
  (hS : ∀ W, BW V W → W.cell? ⟨gy, 0, none⟩ = some (iv a) ∧ W.cell? ⟨gy, 1, none⟩ = some (iv lo) ∧ W.cell? ⟨gy, 2, none⟩ = some (iv hi))
  (hQ : ∀ v' u146 u147 u148 u149 u150 u151 wx, LiveB V wx [some ⟨v', 54, 3, 0 + k1 + 1, [] ++ C1 ++ [iv a, iv lo, iv hi]⟩, none, none, none] → Q .normal ⟨((z0 :: z1 :: z2 :: z3 :: z4 :: z5 :: z6 :: z7 :: z8 :: z9 :: z10 :: z11 :: z12 :: z13 :: s1 :: z15 :: z16 :: z17 :: (.pointer (some ⟨gy, 0, none⟩)) :: v' :: z20 :: z21 :: z22 :: z23 :: z24 :: z25 :: z26 :: z27 :: z28 :: z29 :: z30 :: z31 :: z32 :: z33 :: z34 :: z35 :: z36 :: z37 :: z38 :: z39 :: z40 :: z41 :: z42 :: z43 :: z44 :: z45 :: z46 :: z47 :: z48 :: z49 :: z50 :: z51 :: z52 :: z53 :: z54 :: z55 :: z56 :: z57 :: z58 :: z59 :: z60 :: z61 :: z62 :: z63 :: z64 :: z65 :: z66 :: z67 :: z68 :: z69 :: z70 :: z71 :: z72 :: z73 :: z74 :: z75 :: z76 :: z77 :: z78 :: z79 :: z80 :: z81 :: z82 :: z83 :: z84 :: z85 :: z86 :: z87 :: z88 :: z89 :: z90 :: z91 :: z92 :: z93 :: z94 :: z95 :: z96 :: z97 :: z98 :: z99 :: z100 :: z101 :: z102 :: z103 :: z104 :: z105 :: z106 :: z107 :: z108 :: z109 :: z110 :: z111 :: z112 :: z113 :: z114 :: z115 :: z116 :: z117 :: z118 :: z119 :: z120 :: z121 :: z122 :: z123 :: z124 :: z125 :: z126 :: z127 :: z128 :: z129 :: z130 :: z131 :: z132 :: z133 :: z134 :: z135 :: z136 :: z137 :: z138 :: z139 :: z140 :: z141 :: z142 :: z143 :: z144 :: z145 :: u146 :: u147 :: u148 :: u149 :: u150 :: u151 :: z152 :: z153 :: z154 :: z155 :: z156 :: z157 :: z158 :: z159 :: z160 :: z161 :: z162 :: z163 :: z164 :: z165 :: z166 :: z167 :: z168 :: z169 :: z170 :: z171 :: z172 :: z173 :: z174 :: z175 :: z176 :: z177 :: z178 :: z179 :: z180 :: z181 :: z182 :: z183 :: z184 :: z185 :: z186 :: z187 :: z188 :: z189 :: z190 :: z191 :: z192 :: z193 :: z194 :: z195 :: z196 :: z197 :: z198 :: z199 :: z200 :: z201 :: z202 :: z203 :: z204 :: z205 :: z206 :: z207 :: z208 :: z209 :: z210 :: z211 :: z212 :: z213 :: z214 :: z215 :: z216 :: z217 :: z218 :: z219 :: z220 :: z221 :: z222 :: z223 :: z224 :: z225 :: z226 :: z227 :: z228 :: z229 :: z230 :: z231 :: z232 :: z233 :: z234 :: z235 :: z236 :: z237 :: z238 :: z239 :: z240 :: z241 :: z242 :: z243 :: z244 :: z245 :: z246 :: z247 :: z248 :: z249 :: z250 :: z251 :: z252 :: z253 :: z254 :: z255 :: z256 :: z257 :: z258 :: z259 :: z260 :: z261 :: z262 :: z263 :: z264 :: z265 :: z266 :: z267 :: z268 :: z269 :: z270 :: z271 :: z272 :: z273 :: z274 :: z275 :: z276 :: z277 :: z278 :: z279 :: z280 :: z281 :: z282 :: z283 :: z284 :: z285 :: z286 :: z287 :: z288 :: z289 :: z290 :: z291 :: z292 :: z293 :: z294 :: z295 :: z296 :: z297 :: z298 :: z299 :: z300 :: z301 :: z302 :: z303 :: z304 :: z305 :: z306 :: z307 :: z308 :: z309 :: z310 :: z311 :: z312 :: z313 :: z314 :: z315 :: z316 :: z317 :: z318 :: z319 :: z320 :: z321 :: z322 :: [] : List Value).toArray), []⟩ wx) :
  (regionOf Tryz.f3 22).wp Tryz.prog Q ⟨((z0 :: z1 :: z2 :: z3 :: z4 :: z5 :: z6 :: z7 :: z8 :: z9 :: z10 :: z11 :: z12 :: z13 :: s1 :: z15 :: z16 :: z17 :: (.pointer (some ⟨gy, 0, none⟩)) :: z19 :: z20 :: z21 :: z22 :: z23 :: z24 :: z25 :: z26 :: z27 :: z28 :: z29 :: z30 :: z31 :: z32 :: z33 :: z34 :: z35 :: z36 :: z37 :: z38 :: z39 :: z40 :: z41 :: z42 :: z43 :: z44 :: z45 :: z46 :: z47 :: z48 :: z49 :: z50 :: z51 :: z52 :: z53 :: z54 :: z55 :: z56 :: z57 :: z58 :: z59 :: z60 :: z61 :: z62 :: z63 :: z64 :: z65 :: z66 :: z67 :: z68 :: z69 :: z70 :: z71 :: z72 :: z73 :: z74 :: z75 :: z76 :: z77 :: z78 :: z79 :: z80 :: z81 :: z82 :: z83 :: z84 :: z85 :: z86 :: z87 :: z88 :: z89 :: z90 :: z91 :: z92 :: z93 :: z94 :: z95 :: z96 :: z97 :: z98 :: z99 :: z100 :: z101 :: z102 :: z103 :: z104 :: z105 :: z106 :: z107 :: z108 :: z109 :: z110 :: z111 :: z112 :: z113 :: z114 :: z115 :: z116 :: z117 :: z118 :: z119 :: z120 :: z121 :: z122 :: z123 :: z124 :: z125 :: z126 :: z127 :: z128 :: z129 :: z130 :: z131 :: z132 :: z133 :: z134 :: z135 :: z136 :: z137 :: z138 :: z139 :: z140 :: z141 :: z142 :: z143 :: z144 :: z145 :: z146 :: z147 :: z148 :: z149 :: z150 :: z151 :: z152 :: z153 :: z154 :: z155 :: z156 :: z157 :: z158 :: z159 :: z160 :: z161 :: z162 :: z163 :: z164 :: z165 :: z166 :: z167 :: z168 :: z169 :: z170 :: z171 :: z172 :: z173 :: z174 :: z175 :: z176 :: z177 :: z178 :: z179 :: z180 :: z181 :: z182 :: z183 :: z184 :: z185 :: z186 :: z187 :: z188 :: z189 :: z190 :: z191 :: z192 :: z193 :: z194 :: z195 :: z196 :: z197 :: z198 :: z199 :: z200 :: z201 :: z202 :: z203 :: z204 :: z205 :: z206 :: z207 :: z208 :: z209 :: z210 :: z211 :: z212 :: z213 :: z214 :: z215 :: z216 :: z217 :: z218 :: z219 :: z220 :: z221 :: z222 :: z223 :: z224 :: z225 :: z226 :: z227 :: z228 :: z229 :: z230 :: z231 :: z232 :: z233 :: z234 :: z235 :: z236 :: z237 :: z238 :: z239 :: z240 :: z241 :: z242 :: z243 :: z244 :: z245 :: z246 :: z247 :: z248 :: z249 :: z250 :: z251 :: z252 :: z253 :: z254 :: z255 :: z256 :: z257 :: z258 :: z259 :: z260 :: z261 :: z262 :: z263 :: z264 :: z265 :: z266 :: z267 :: z268 :: z269 :: z270 :: z271 :: z272 :: z273 :: z274 :: z275 :: z276 :: z277 :: z278 :: z279 :: z280 :: z281 :: z282 :: z283 :: z284 :: z285 :: z286 :: z287 :: z288 :: z289 :: z290 :: z291 :: z292 :: z293 :: z294 :: z295 :: z296 :: z297 :: z298 :: z299 :: z300 :: z301 :: z302 :: z303 :: z304 :: z305 :: z306 :: z307 :: z308 :: z309 :: z310 :: z311 :: z312 :: z313 :: z314 :: z315 :: z316 :: z317 :: z318 :: z319 :: z320 :: z321 :: z322 :: [] : List Value).toArray), []⟩ V := by
 obtain ⟨i54, hi54, hz540, hz541, hz542⟩ := info_parts Tryz.info54
 have HSK := Lq hS
 have HC1 := Lq hC1
 have L0 : Hid (LiveB V V.drew [none, none, none, none]) := Lq liveB_start
 clear hC1
 have HS := Lq hS
 have HQ := Lq hQ
 have HB0 := Lq (belowDq (belowR V))
 clear hS hQ
 have e : regionOf Tryz.f3 22 = Code.region 22 ops3_22 true := by kernel_rfl
 rw [e]
 refine wp_region_noPanic ?_
 refine wp_region_held_drew (S := (fun W => W.cell? ⟨gy, 0, none⟩ = some (iv a) ∧ W.cell? ⟨gy, 1, none⟩ = some (iv lo) ∧ W.cell? ⟨gy, 2, none⟩ = some (iv hi))) (by kernel_rfl) (HS.out _ HB0.out) (fun hHeld => ?_)
 have hsz : ops3_22.size = 7 := by kernel_rfl
 have hrep : Array.replicate 7 false = #[false, false, false, false, false, false, false] := by kernel_rfl
 rw [hsz, hrep]
 clear e hsz hrep
 generalize V.drew = V0 at HB0 L0 hHeld ⊢
 refine tk 1 s1 ?_
 refine tk 3 (.agg #[iv a, iv lo, iv hi]) ?_
 refine rd2 0 4 (fun K' hK => ?_) fun K' hK => ?_
 ·go_simp
  have L1 : Hid (LiveB V (V0.alloc (.cells #[] 54)) [some ⟨.slice (some ⟨V0.heap.size, 0, none⟩) 0 0, 54, 3, 0, []⟩, none, none, none]) := Lq (liveB_lit L0.out 0 #[] 54 3 0 (by unfold maxLen; omega) (by rfl))
  obtain ⟨w2, hww2⟩ := ex (V0.alloc (.cells #[] 54))
  obtain ⟨n3, hnn3⟩ := ex V0.heap.size
  rw [hww2, hnn3] at L1
  rw [hww2, hnn3]
  refine hK.out _ _ (HSK.out _ L1.out.1) (fun hHeld => ?_)
  clear hww2 hnn3 L0
  clear hK
  refine rd2 2 4 (fun K' hK => ?_) fun K' hK => ?_
  ·refine step_append_live (by rfl) _ _ 51 (by rfl) L1.out 0 _ rfl i54 _ 24 Tryz.underlying51 hi54 hz540 hz541 hz542 rfl (Nat.succ_pos _) (by rfl) s1 k1 _ (by rfl) (srcs_keep L1.out HC1.out) (by simp only []; unfold maxLen; omega) (by simp only []; omega) ?_
   intro v5 w6 L4
   replace L4 := Lq L4
   refine hK.out _ _ (HSK.out _ L4.out.1) (fun hHeld => ?_)
   clear L1
   clear hK
   refine rd1 4 fun K' hK => ?_
   go_simp
   have L7 : Hid (LiveB V (w6.alloc (.cells #[iv a, iv lo, iv hi] 54)) [some ⟨v5, 54, 3, 0 + k1, [] ++ C1⟩, some ⟨.slice (some ⟨w6.heap.size, 0, none⟩) 1 1, 54, 3, 1, [iv a, iv lo, iv hi]⟩, none, none]) := Lq (liveB_lit L4.out 1 #[iv a, iv lo, iv hi] 54 3 1 (by unfold maxLen; omega) (by rfl))
   obtain ⟨w8, hww8⟩ := ex (w6.alloc (.cells #[iv a, iv lo, iv hi] 54))
   obtain ⟨n9, hnn9⟩ := ex w6.heap.size
   rw [hww8, hnn9] at L7
   rw [hww8, hnn9]
   refine hK.out _ _ (HSK.out _ L7.out.1) (fun hHeld => ?_)
   clear hww8 hnn9 L4
   clear hK
   refine rd1 5 fun K' hK => ?_
   have hsrc := live_src L7.out.2 (k := 1) (by rfl) (by intro u hu; simp only [List.mem_cons, List.mem_nil_iff, or_false] at hu; rcases hu with rfl | rfl | rfl <;> rfl)
   refine step_append_live (by rfl) _ _ 51 (by rfl) L7.out 0 _ rfl i54 _ 24 Tryz.underlying51 hi54 hz540 hz541 hz542 rfl (Nat.succ_pos _) (by rfl) _ 1 _ (by rfl) hsrc (by simp only []; unfold maxLen; omega) (by simp only []; omega) ?_
   intro v11 w12 L10
   replace L10 := Lq L10
   refine hK.out _ _ (HSK.out _ L10.out.1) (fun hHeld => ?_)
   clear L7
   clear hK
   refine tk 6 v11 ?_
   refine wpAnyH_done (by kernel_rfl) ?_ _
   exact NoPanic.normal (HQ.out _ _ _ _ _ _ _ _ (liveB_drop L10.out 1))
  ·go_simp
   have L13 : Hid (LiveB V (w2.alloc (.cells #[iv a, iv lo, iv hi] 54)) [some ⟨.slice (some ⟨n3, 0, none⟩) 0 0, 54, 3, 0, []⟩, some ⟨.slice (some ⟨w2.heap.size, 0, none⟩) 1 1, 54, 3, 1, [iv a, iv lo, iv hi]⟩, none, none]) := Lq (liveB_lit L1.out 1 #[iv a, iv lo, iv hi] 54 3 1 (by unfold maxLen; omega) (by rfl))
   obtain ⟨w14, hww14⟩ := ex (w2.alloc (.cells #[iv a, iv lo, iv hi] 54))
   obtain ⟨n15, hnn15⟩ := ex w2.heap.size
   rw [hww14, hnn15] at L13
   rw [hww14, hnn15]
   refine hK.out _ _ (HSK.out _ L13.out.1) (fun hHeld => ?_)
   clear hww14 hnn15 L1
   clear hK
   refine rd1 2 fun K' hK => ?_
   refine step_append_live (by rfl) _ _ 51 (by rfl) L13.out 0 _ rfl i54 _ 24 Tryz.underlying51 hi54 hz540 hz541 hz542 rfl (Nat.succ_pos _) (by rfl) s1 k1 _ (by rfl) (srcs_keep L13.out HC1.out) (by simp only []; unfold maxLen; omega) (by simp only []; omega) ?_
   intro v17 w18 L16
   replace L16 := Lq L16
   refine hK.out _ _ (HSK.out _ L16.out.1) (fun hHeld => ?_)
   clear L13
   clear hK
   refine rd1 5 fun K' hK => ?_
   have hsrc := live_src L16.out.2 (k := 1) (by rfl) (by intro u hu; simp only [List.mem_cons, List.mem_nil_iff, or_false] at hu; rcases hu with rfl | rfl | rfl <;> rfl)
   refine step_append_live (by rfl) _ _ 51 (by rfl) L16.out 0 _ rfl i54 _ 24 Tryz.underlying51 hi54 hz540 hz541 hz542 rfl (Nat.succ_pos _) (by rfl) _ 1 _ (by rfl) hsrc (by simp only []; unfold maxLen; omega) (by simp only []; omega) ?_
   intro v20 w21 L19
   replace L19 := Lq L19
   refine hK.out _ _ (HSK.out _ L19.out.1) (fun hHeld => ?_)
   clear L16
   clear hK
   refine tk 6 v20 ?_
   refine wpAnyH_done (by kernel_rfl) ?_ _
   exact NoPanic.normal (HQ.out _ _ _ _ _ _ _ _ (liveB_drop L19.out 1))
 ·go_simp
  have L22 : Hid (LiveB V (V0.alloc (.cells #[iv a, iv lo, iv hi] 54)) [none, some ⟨.slice (some ⟨V0.heap.size, 0, none⟩) 1 1, 54, 3, 1, [iv a, iv lo, iv hi]⟩, none, none]) := Lq (liveB_lit L0.out 1 #[iv a, iv lo, iv hi] 54 3 1 (by unfold maxLen; omega) (by rfl))
  obtain ⟨w23, hww23⟩ := ex (V0.alloc (.cells #[iv a, iv lo, iv hi] 54))
  obtain ⟨n24, hnn24⟩ := ex V0.heap.size
  rw [hww23, hnn24] at L22
  rw [hww23, hnn24]
  refine hK.out _ _ (HSK.out _ L22.out.1) (fun hHeld => ?_)
  clear hww23 hnn24 L0
  clear hK
  refine rd1 0 fun K' hK => ?_
  go_simp
  have L25 : Hid (LiveB V (w23.alloc (.cells #[] 54)) [some ⟨.slice (some ⟨w23.heap.size, 0, none⟩) 0 0, 54, 3, 0, []⟩, some ⟨.slice (some ⟨n24, 0, none⟩) 1 1, 54, 3, 1, [iv a, iv lo, iv hi]⟩, none, none]) := Lq (liveB_lit L22.out 0 #[] 54 3 0 (by unfold maxLen; omega) (by rfl))
  obtain ⟨w26, hww26⟩ := ex (w23.alloc (.cells #[] 54))
  obtain ⟨n27, hnn27⟩ := ex w23.heap.size
  rw [hww26, hnn27] at L25
  rw [hww26, hnn27]
  refine hK.out _ _ (HSK.out _ L25.out.1) (fun hHeld => ?_)
  clear hww26 hnn27 L22
  clear hK
  refine rd1 2 fun K' hK => ?_
  refine step_append_live (by rfl) _ _ 51 (by rfl) L25.out 0 _ rfl i54 _ 24 Tryz.underlying51 hi54 hz540 hz541 hz542 rfl (Nat.succ_pos _) (by rfl) s1 k1 _ (by rfl) (srcs_keep L25.out HC1.out) (by simp only []; unfold maxLen; omega) (by simp only []; omega) ?_
  intro v29 w30 L28
  replace L28 := Lq L28
  refine hK.out _ _ (HSK.out _ L28.out.1) (fun hHeld => ?_)
  clear L25
  clear hK
  refine rd1 5 fun K' hK => ?_
  have hsrc := live_src L28.out.2 (k := 1) (by rfl) (by intro u hu; simp only [List.mem_cons, List.mem_nil_iff, or_false] at hu; rcases hu with rfl | rfl | rfl <;> rfl)
  refine step_append_live (by rfl) _ _ 51 (by rfl) L28.out 0 _ rfl i54 _ 24 Tryz.underlying51 hi54 hz540 hz541 hz542 rfl (Nat.succ_pos _) (by rfl) _ 1 _ (by rfl) hsrc (by simp only []; unfold maxLen; omega) (by simp only []; omega) ?_
  intro v32 w33 L31
  replace L31 := Lq L31
  refine hK.out _ _ (HSK.out _ L31.out.1) (fun hHeld => ?_)
  clear L28
  clear hK
  refine tk 6 v32 ?_
  refine wpAnyH_done (by kernel_rfl) ?_ _
  exact NoPanic.normal (HQ.out _ _ _ _ _ _ _ _ (liveB_drop L31.out 1))
end Go.Proofs.YtmhjhbchokbonaaGreat
