/- Layer 2: beaches, tides, ships; the reference's Check (printed by mkHT1.py). Layer 2: where a ship stops, reckoned. -/
import Derived.Test.YtpgfldcoojfheaaGreatDoorM0
import Derived.Test.YtpgfldcoojfheaaGreatDoorM4
set_option maxRecDepth 1000000
set_option maxHeartbeats 16000000
namespace Go.Proofs.YtpgfldcoojfheaaGreatDoor
open Go.RowKit
section
variable {hi lo : Int}
structure TdT where
 day : Int
 hlo : Int
 hhi : Int
 wlo : Int
 whi : Int
def encT (t : TdT) : List Value:=[iv t.day,iv t.hlo,iv t.hhi,iv t.wlo,iv t.whi]
theorem encT_len : ∀ t,(encT t).length = 5:=fun _=>rfl
structure TdB where
 slo : Int
 shi : Int
 mlo : Int
 mhi : Int
 bite : Int
structure TdS where
 dlo : Int
 dhi : Int
 sink : Int
abbrev bV (b : TdB) (A : Option Addr) (n cap : Nat) : Value:=.agg #[iv b.slo,iv b.shi,iv b.mlo,iv b.mhi,iv b.bite,.slice A n cap]
abbrev sV (s : TdS) : Value:=.agg #[iv s.dlo,iv s.dhi,iv s.sink]
structure TideOk (t : TdT) : Prop where
 day : 0 ≤ t.day ∧ t.day ≤ 40000
 h : 0 ≤ t.hlo ∧ t.hlo ≤ t.hhi ∧ t.hhi ≤ 1500
 w : -200 ≤ t.wlo ∧ t.wlo ≤ t.whi ∧ t.whi ≤ 200
structure TidesOk (ts : List TdT) : Prop where
 len : 1 ≤ ts.length ∧ ts.length ≤ 12
 one : ∀ i t,ts[i]? = some t → TideOk t ∧ (0 < i → ∀ t',ts[i - 1]? = some t' → t'.day ≤ t.day)
structure BeachOk (b : TdB) (ts : List TdT) : Prop where
 s : 1 ≤ b.slo ∧ b.slo ≤ b.shi ∧ b.shi ≤ 200
 m : -2000000 ≤ b.mlo ∧ b.mlo ≤ b.mhi ∧ b.mhi ≤ 2000000
 bite : 0 ≤ b.bite ∧ b.bite ≤ 200
 ts : TidesOk ts
structure ShOk (s : TdS) : Prop where
 d : 0 ≤ s.dlo ∧ s.dlo ≤ s.dhi ∧ s.dhi ≤ 1500
 sink : 0 ≤ s.sink ∧ s.sink ≤ 50
structure TsRd (w : World) (B : Nat) (A : Option Addr) (cap : Nat) (ts : List TdT) : Prop where
 rd : RdN 5 encT w B A ts
 le : ts.length ≤ cap
 max : cap ≤ maxLen
section
variable {w w' : World} {B B' cap : Nat} {A : Option Addr} {ts : List TdT} {t : TdT}
theorem TsRd.below (h : TsRd w B A cap ts) (hb : Below B' w w') (hB : B ≤ B') : TsRd w' B A cap ts:=⟨h.rd.below hb hB,h.le,h.max⟩
theorem TsRd.more (h : TsRd w B A cap ts) (hB : B ≤ B') : TsRd w B' A cap ts:=⟨h.rd.more hB,h.le,h.max⟩
theorem TsRd.at (h : TsRd w B A cap ts) {i : Nat} (hx : ts[i]? = some t) : ∃ b off,A = some ⟨b,off,none⟩ ∧ b < B ∧ w.cell? ⟨b,off + i * 5,none⟩ = some (iv t.day) ∧ w.cell? ⟨b,off + i * 5 + 1,none⟩ = some (iv t.hlo) ∧ w.cell? ⟨b,off + i * 5 + 2,none⟩ = some (iv t.hhi) ∧ w.cell? ⟨b,off + i * 5 + 3,none⟩ = some (iv t.wlo) ∧ w.cell? ⟨b,off + i * 5 + 4,none⟩ = some (iv t.whi):=by
 obtain ⟨b,off,e,hb,hc⟩:=h.rd i t hx;exact ⟨b,off,e,hb,hc 0 _ rfl,hc 1 _ rfl,hc 2 _ rfl,hc 3 _ rfl,hc 4 _ rfl⟩
end
def worstE (l : List Int) : Int:=l.foldl (fun out e=>if e = 7 ∨ (e = 2 ∧ out = 0) then e else out) 0
theorem worstE_snoc {l : List Int} {k : Nat} {x : Int} (h : l[k]? = some x) : worstE (l.take (k + 1)) = if x = 7 ∨ (x = 2 ∧ worstE (l.take k) = 0) then x else worstE (l.take k):=by
 unfold worstE;rw [List.take_add_one,h];simp
def errV (r : Int) : Prop:=r = 0 ∨ r = 2 ∨ r = 7
theorem worst3 {a b c : Int} (ha : errV a) (hb : errV b) (hc : errV c) : worstE [a,b,c] = 0 ↔ a = 0 ∧ b = 0 ∧ c = 0:=by
 rcases ha with rfl | rfl | rfl <;> rcases hb with rfl | rfl | rfl <;> rcases hc with rfl | rfl | rfl <;> decide
theorem range_errV (L H lo hi : Int) : errV (rangeE L H lo hi):=by
 unfold rangeE errV;split
 ·split <;> simp
 ·simp
theorem range_iff {L H : Int} : rangeE L H lo hi = 0 ↔ L ≤ lo ∧ lo ≤ hi ∧ hi ≤ H:=by
 unfold rangeE;split
 ·rename_i h;rw [Bool.and_eq_true] at h;have:=inB_t h.1;have:=inB_t h.2;split <;> constructor <;> intro h <;> omega
 ·rename_i h;constructor
  ·intro h; cases h
  ·intro h2;exact absurd (by rw [inB_mk h2.1 (by omega),inB_mk (by omega) h2.2.2]; rfl) h
def rangedE (lo hi n : Int) : Int:=if inB lo hi n then 0 else 7
theorem ranged_errV (lo hi n : Int) : errV (rangedE lo hi n):=by
 unfold rangedE errV;split <;> simp
theorem ranged_iff {n : Int} : rangedE lo hi n = 0 ↔ lo ≤ n ∧ n ≤ hi:=by
 unfold rangedE;split
 ·rename_i h; exact ⟨fun _=>inB_t h,fun _=>rfl⟩
 ·rename_i h;exact ⟨fun h=>(by cases h),fun h2=>absurd (inB_mk h2.1 h2.2) h⟩
theorem worst17_any (A : Option Addr) (l : List Int) (B cap : Nat) (w : World) (hm : l.length ≤ maxLen) (H : Rd1 iv w B A l) :
  Calls Tryz.prog 17 #[.slice A l.length cap] w fun e w'=>e = .returned (iv (worstE l)) ∧ BW w w':=by
 unfold maxLen at hm;have HH:=Lq H;clear H;go_enter Tryz.func17,Tryz.ntmps17
 go_wp2
 go_loopw [3,4] (fun o i wr=>∃ (k : Nat) (v : Int),k ≤ l.length ∧ i = iv k ∧ o = iv v ∧ Hid (v = worstE (l.take k)) ∧ Hid (BW w wr) ∧ Hid (∃ n,wr = w.drewN n)) (fun _ i _=>l.length - (intOf i).toNat)
 case atStart=>exact ⟨0,0,Nat.zero_le _,rfl,rfl,Lq rfl,Lq (belowR _),Lq ⟨0,rfl⟩⟩
 case round =>
  obtain ⟨k,v,hk,rfl,rfl,HV,HBR,HN⟩:=hrel;have hk0 : (0 : Int) ≤ (k : Int):=by omega
  by_cases hlt : k < l.length
  ·obtain ⟨x,hx⟩ : ∃ x,l[k]? = some x:=⟨_,List.getElem?_eq_getElem hlt⟩;obtain ⟨b,off,rfl,_,c0⟩:=HH.out k x hx;obtain ⟨nn,hnn⟩:=HN.out;have c0 : wr.cell? ⟨b,off + k,none⟩ = some (iv x):=by rw [hnn]; exact c0
   have HSN:=Lq (worstE_snoc hx);clear hx;obtain ⟨v',hv'⟩:=ex (worstE (l.take (k + 1)));have hcase : (x = 7 ∧ v' = 7) ∨ (x = 2 ∧ v = 0 ∧ v' = 2) ∨ (x ≠ 7 ∧ x ≠ 2 ∧ v' = v) ∨ (x = 2 ∧ v ≠ 0 ∧ v' = v):=by
    rw [← hv',HSN.out,← HV.out];by_cases h7 : x = 7
    ·subst h7; simp
    ·by_cases h2 : x = 2
     ·subst h2;by_cases h0 : v = 0
      ·subst h0; simp
      ·simp [h0]
     ·simp [h7,h2]
   have HV':=Lq hv';clear hv' HSN HV hnn;rcases hcase with ⟨rfl,rfl⟩ | ⟨rfl,rfl,rfl⟩ | ⟨h7,h2,rfl⟩ | ⟨rfl,h0,rfl⟩
   ·go_wp2_with fail
    go_roundw
    case measure=>simp [intOf]; omega
    case rel=>exact ⟨k + 1,7,by omega,by go_num,rfl,Lq HV'.out.symm,HBR,HN⟩
   ·go_wp2_with fail
    go_roundw
    case measure=>simp [intOf]; omega
    case rel=>exact ⟨k + 1,2,by omega,by go_num,rfl,Lq HV'.out.symm,HBR,HN⟩
   ·have e7 : (x == 7) = false:=by simpa using h7
    have e2 : (x == 2) = false:=by simpa using h2
    go_wp2_with fail
    go_roundw
    case measure=>simp [intOf]; omega
    case rel=>exact ⟨k + 1,v',by omega,by go_num,rfl,Lq HV'.out.symm,HBR,HN⟩
   ·have e0 : (v' == 0) = false:=by simpa using h0
    go_wp2_with fail
    go_roundw
    case measure=>simp [intOf]; omega
    case rel=>exact ⟨k + 1,v',by omega,by go_num,rfl,Lq HV'.out.symm,HBR,HN⟩
  ·obtain rfl : k = l.length:=by omega
   go_wp2_with fail
   go_ret
   have hv:=HV.out;rw [List.take_of_length_le (Nat.le_refl _)] at hv;exact ⟨ret_int hv,HBR.out⟩
end
section
variable {i : Nat}
structure BxT where
 slo : Int
 shi : Int
 dlo : Int
 dhi : Int
 hlo : Int
 hhi : Int
 wlo : Int
 whi : Int
abbrev bxV (x : BxT) : Value:=.agg #[iv x.slo,iv x.shi,iv x.dlo,iv x.dhi,iv x.hlo,iv x.hhi,iv x.wlo,iv x.whi]
structure C4 where
 a : Int
 b : Int
 c : Int
 d : Int
abbrev c4V (c : C4) : Value:=.agg #[iv c.a,iv c.b,iv c.c,iv c.d]
def pk (s i : Nat) (lo hi : Int) : Int:=if hasB s i then hi else lo
def cor (x : BxT) (s : Nat) : C4:=⟨pk s 0 x.slo x.shi,pk s 1 x.dlo x.dhi,pk s 2 x.hlo x.hhi,pk s 3 x.wlo x.whi⟩
def corL (x : BxT) : List C4:=(List.range 16).map (cor x)
def corN (x : BxT) (k : Nat) : List C4:=(List.range k).map (cor x)
theorem corN_snoc (x : BxT) (k : Nat) : corN x (k + 1) = corN x k ++ [cor x k]:=by
 unfold corN;rw [List.range_succ,List.map_append];rfl
theorem corN_pre (x : BxT) {k : Nat} (h : k < 16) : corN x k ++ [cor x k] <+: corL x:=by
 rw [← corN_snoc];unfold corN corL;have e : List.range (k + 1) = (List.range 16).take (k + 1):=by rw [List.take_range,Nat.min_eq_left h]
 rw [e,List.map_take];exact List.take_prefix _ _
def minL : List Int → Int
 | []=>0
 | x::r=>r.foldl min x
def maxL : List Int → Int
 | []=>0
 | x::r=>r.foldl max x
theorem minL_snoc (l : List Int) (x : Int) (h : l ≠ []) : minL (l ++ [x]) = min (minL l) x:=by
 cases l with
 | nil=>exact absurd rfl h
 | cons a r=>simp [minL]
theorem maxL_snoc (l : List Int) (x : Int) (h : l ≠ []) : maxL (l ++ [x]) = max (maxL l) x:=by
 cases l with
 | nil=>exact absurd rfl h
 | cons a r=>simp [maxL]
theorem minF_le : ∀ (l m : List Int) (x y : Int),x ≤ y → l.length = m.length → (∀ (i : Nat) (a b : Int),l[i]? = some a → m[i]? = some b → a ≤ b) → l.foldl min x ≤ m.foldl min y
 | [],[],_,_,h,_,_=>h
 | [],_::_,_,_,_,h,_=>by simp at h
 | _::_,[],_,_,_,h,_=>by simp at h
 | a::l,b::m,x,y,h,hl,hp=>minF_le l m _ _ (by have:=hp 0 a b rfl rfl; simp only [Int.min_def]; split <;> split <;> omega) (by simpa using hl) (fun i u v hu hv=>hp (i + 1) u v hu hv)
theorem maxF_le : ∀ (l m : List Int) (x y : Int),x ≤ y → l.length = m.length → (∀ (i : Nat) (a b : Int),l[i]? = some a → m[i]? = some b → a ≤ b) → l.foldl max x ≤ m.foldl max y
 | [],[],_,_,h,_,_=>h
 | [],_::_,_,_,_,h,_=>by simp at h
 | _::_,[],_,_,_,h,_=>by simp at h
 | a::l,b::m,x,y,h,hl,hp=>maxF_le l m _ _ (by have:=hp 0 a b rfl rfl; simp only [Int.max_def]; split <;> split <;> omega) (by simpa using hl) (fun i u v hu hv=>hp (i + 1) u v hu hv)
theorem minL_le {l m : List Int} (hl : l.length = m.length) (hp : ∀ (i : Nat) (a b : Int),l[i]? = some a → m[i]? = some b → a ≤ b) : minL l ≤ minL m:=by
 cases l with
 | nil=>cases m with
  | nil=>exact Int.le_refl _
  | cons b m=>simp at hl
 | cons a l=>cases m with
  | nil=>simp at hl
  | cons b m=>exact minF_le l m a b (hp 0 a b rfl rfl) (by simpa using hl) (fun i u v hu hv=>hp (i + 1) u v hu hv)
theorem maxL_le {l m : List Int} (hl : l.length = m.length) (hp : ∀ (i : Nat) (a b : Int),l[i]? = some a → m[i]? = some b → a ≤ b) : maxL l ≤ maxL m:=by
 cases l with
 | nil=>cases m with
  | nil=>exact Int.le_refl _
  | cons b m=>simp at hl
 | cons a l=>cases m with
  | nil=>simp at hl
  | cons b m=>exact maxF_le l m a b (hp 0 a b rfl rfl) (by simpa using hl) (fun i u v hu hv=>hp (i + 1) u v hu hv)
def atV (sink bal bite : Int) (c : C4) : Int:=1000 * (c.c + c.d + bite - c.b - sink * bal) / c.a
def lieV (c : C4) : Int:=1000 * c.c / c.a
structure BxOk (x : BxT) : Prop where
 s : 1 ≤ x.slo ∧ 1 ≤ x.shi ∧ x.slo ≤ 200 ∧ x.shi ≤ 200
 d : -9000 ≤ x.dlo ∧ x.dlo ≤ 9000 ∧ -9000 ≤ x.dhi ∧ x.dhi ≤ 9000
 h : -9000 ≤ x.hlo ∧ x.hlo ≤ 9000 ∧ -9000 ≤ x.hhi ∧ x.hhi ≤ 9000
 w : -9000 ≤ x.wlo ∧ x.wlo ≤ 9000 ∧ -9000 ≤ x.whi ∧ x.whi ≤ 9000
structure C4Ok (c : C4) : Prop where
 s : 1 ≤ c.a ∧ c.a ≤ 200
 d : -9000 ≤ c.b ∧ c.b ≤ 9000
 h : -9000 ≤ c.c ∧ c.c ≤ 9000
 w : -9000 ≤ c.d ∧ c.d ≤ 9000
theorem pk_in {s : Nat} {lo hi a b : Int} (h1 : a ≤ lo ∧ lo ≤ b) (h2 : a ≤ hi ∧ hi ≤ b) : a ≤ pk s i lo hi ∧ pk s i lo hi ≤ b:=by
 unfold pk;split
 ·exact h2
 ·exact h1
theorem cor_ok {x : BxT} (h : BxOk x) (s : Nat) : C4Ok (cor x s) :=
 ⟨pk_in ⟨h.s.1,h.s.2.2.1⟩ ⟨h.s.2.1,h.s.2.2.2⟩,pk_in ⟨h.d.1,h.d.2.1⟩ h.d.2.2,pk_in ⟨h.h.1,h.h.2.1⟩ h.h.2.2,pk_in ⟨h.w.1,h.w.2.1⟩ h.w.2.2⟩
theorem corL_ok {x : BxT} (h : BxOk x) {c : C4} (hc : c ∈ corL x) : C4Ok c:=by
 obtain ⟨s,_,rfl⟩:=List.mem_map.1 hc;exact cor_ok h s
theorem down_eq (n by' : Int) (h : 0 < by') : n / by' = if n.tmod by' < 0 then n.tdiv by' - 1 else n.tdiv by':=by
 have h1:=Int.mul_tdiv_add_tmod n by'
 have h2:=Int.tmod_lt_of_pos n h;have h3:=Int.mul_ediv_add_emod n by'
 have h4:=Int.emod_nonneg n (by omega : by' ≠ 0)
 have h5:=Int.emod_lt_of_pos n h;split
 ·rename_i hn;have h6 : -by' < n.tmod by':=by
   have:=Int.lt_tmod_of_pos n h;omega
  have h7 : by' * (n / by' - (n.tdiv by' - 1)) = n.tmod by' + by' - n % by':=by rw [Int.mul_sub,Int.mul_sub]; omega
  have h8 : n / by' - (n.tdiv by' - 1) < 1:=by
   refine Int.lt_of_mul_lt_mul_left (a:=by') ?_ (by omega)
   omega
  have h9 : -1 < n / by' - (n.tdiv by' - 1):=by
   refine Int.lt_of_mul_lt_mul_left (a:=by') ?_ (by omega)
   omega
  omega
 ·rename_i hn;have h7 : by' * (n / by' - n.tdiv by') = n.tmod by' - n % by':=by rw [Int.mul_sub]; omega
  have h8 : n / by' - n.tdiv by' < 1:=by
   refine Int.lt_of_mul_lt_mul_left (a:=by') ?_ (by omega)
   omega
  have h9 : -1 < n / by' - n.tdiv by':=by
   refine Int.lt_of_mul_lt_mul_left (a:=by') ?_ (by omega)
   omega
  omega
def boxOf (b : TdB) (s : TdS) (t : TdT) : BxT:=⟨b.slo,b.shi,s.dlo,s.dhi,t.hlo,t.hhi,t.wlo,t.whi⟩
theorem boxOf_ok {b : TdB} {ts : List TdT} {s : TdS} {t : TdT} (hb : BeachOk b ts) (hs : ShOk s) (ht : ts[i]? = some t) : BxOk (boxOf b s t):=by
 have h1:=hb.s;have h2:=hs.d;have h3:=(hb.ts.one i t ht).1.h;have h4:=(hb.ts.one i t ht).1.w;exact ⟨⟨by show 1 ≤ b.slo; omega,by show 1 ≤ b.shi; omega,by show b.slo ≤ 200; omega,by show b.shi ≤ 200; omega⟩,⟨by show -9000 ≤ s.dlo; omega,by show s.dlo ≤ 9000; omega,by show -9000 ≤ s.dhi; omega,by show s.dhi ≤ 9000; omega⟩,
  ⟨by show -9000 ≤ t.hlo; omega,by show t.hlo ≤ 9000; omega,by show -9000 ≤ t.hhi; omega,by show t.hhi ≤ 9000; omega⟩,⟨by show -9000 ≤ t.wlo; omega,by show t.wlo ≤ 9000; omega,by show -9000 ≤ t.whi; omega,by show t.whi ≤ 9000; omega⟩⟩
def stopL (sink bal bite : Int) (x : BxT) : List Int:=(corL x).map (atV sink bal bite)
def stopLo (sink bal : Int) (x : BxT) : Int:=minL (stopL sink bal 0 x)
def stopHi (sink bal : Int) (x : BxT) : Int:=maxL (stopL sink bal 0 x)
theorem stop_mono {b : TdB} {s s' : TdS} {t : TdT} (hb : 1 ≤ b.slo ∧ 1 ≤ b.shi) (h1 : s'.dlo ≤ s.dlo) (h2 : s'.dhi ≤ s.dhi) (h3 : s'.sink = s.sink) (bal : Int) :
  stopLo s.sink bal (boxOf b s t) ≤ stopLo s'.sink bal (boxOf b s' t) ∧ stopHi s.sink bal (boxOf b s t) ≤ stopHi s'.sink bal (boxOf b s' t):=by
 have hl : (stopL s.sink bal 0 (boxOf b s t)).length = (stopL s'.sink bal 0 (boxOf b s' t)).length:=by simp [stopL,corL]
 have hp : ∀ (i : Nat) (x y : Int),(stopL s.sink bal 0 (boxOf b s t))[i]? = some x → (stopL s'.sink bal 0 (boxOf b s' t))[i]? = some y → x ≤ y:=fun i x y hx hy=>by
  unfold stopL corL at hx hy;rw [List.getElem?_map,List.getElem?_map] at hx hy;cases hr : (List.range 16)[i]? with
  | none=>rw [hr] at hx; cases hx
  | some k =>
   rw [hr] at hx hy;injection hx with hx
   injection hy with hy
   subst hx hy;unfold atV cor;simp only;have hsp : 0 < pk k 0 (boxOf b s t).slo (boxOf b s t).shi:=by
    unfold pk boxOf;split
    ·have:=hb.2; simp only; omega
    ·have:=hb.1; simp only; omega
   have hdr : pk k 1 (boxOf b s' t).dlo (boxOf b s' t).dhi ≤ pk k 1 (boxOf b s t).dlo (boxOf b s t).dhi:=by
    unfold pk boxOf;split
    ·exact h2
    ·exact h1
   rw [h3];refine Int.ediv_le_ediv hsp ?_;show _ ≤ 1000 * (pk k 2 t.hlo t.hhi + pk k 3 t.wlo t.whi + 0 - _ - _)
   have e2 : pk k 2 (boxOf b s t).hlo (boxOf b s t).hhi = pk k 2 t.hlo t.hhi:=rfl;have e3 : pk k 3 (boxOf b s t).wlo (boxOf b s t).whi = pk k 3 t.wlo t.whi:=rfl;rw [e2,e3];omega
 exact ⟨minL_le hl hp,maxL_le hl hp⟩
end
end Go.Proofs.YtpgfldcoojfheaaGreatDoor
