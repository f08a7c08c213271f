/- hull: Above (printed by mkHB7.py). hull: Above as a whole (printed by mkHB8.py). DERIVED: THE SHELF's CONTRACTS AT THIS DUMP, IN PLAIN WORDS (tools/lay-plain.mjs out of 'TryzShelf.lean', which tools/lay-shelf.mjs wrote): THE SAME DECLARATIONS UNDER THE SAME NAMES: 'import', 'namespace', 'open', 'def', 'theorem' AND NOTHING ELSE: no command of the shelf's: FOR A HAND-IN. Each laying: the table of .. -/
import Derived.Deep.AppendLies
import Derived.Laws.EntriesVeiled
import Derived.Shelf.Strings.Builder1
import Derived.Shelf.Strings.Builder2
import Derived.Shelf.Strings.OnBuilder
import Derived.Shelf.Small.Bits
import Derived.Shelf.Strconv.Atoi
import Derived.Shelf.Strconv.Itoa0
import Derived.Shelf.Strconv.Itoa1
import Derived.Shelf.LaysM
import Derived.Shelf.Strconv.Itoa2
import Derived.Shelf.Strconv.Itoa3
import Derived.Shelf.Strings.Search1
import Derived.Shelf.Strings.Search2
import Derived.Shelf.Strings.Search3
import Derived.Shelf.Strings.Cut
import Derived.Shelf.Strings.Count
import Derived.Shelf.Strings.Shaped
import Derived.Shelf.Sort.Plain
import Derived.Shelf.Strings.Split
import Derived.Shelf.Unicode.DecodeSlow
import Derived.Shelf.Unicode.DecodeAny
import Derived.Shelf.Slices.Turned
import Derived.Shelf.Slices.Equal
import Derived.Ground.Names2Prog
import Derived.Shelf.Slices.Clone
import Derived.Shelf.Slices.CompactS
import Derived.Shelf.Slices.Cells
import Derived.Shelf.Slices.In.SortNone
import Derived.Shelf.Slices.Empties2
import Derived.Ground.SlgnProg
import Derived.Shelf.SlicesE.Clone
import Derived.Test.YtpgfldcoojfheaaGreatDoorProg
import Derived.Test.YtpgfldcoojfheaaGreatDoorM0
import Derived.Test.YtpgfldcoojfheaaGreatDoorM9
set_option maxRecDepth 1000000
set_option maxHeartbeats 16000000
namespace Go.Proofs.YtpgfldcoojfheaaGreatDoor
open Go.RowKit
theorem idx_over (P : ByteArray → Bool) (A : Option Addr) (ms : List ByteArray) (B cap : Nat) (v0 v1 : Value) (w : World) (hm : ms.length ≤ maxLen) (hB : B ≤ w.heap.size) (H : Rd1 .string w B A ms) (hcl : ∀ W m,BW w W → m ∈ ms → Calls Tryz.prog 53 #[.string m,v0,v1] W (Rt W (.bool (P m)))) :
  Calls Tryz.prog 99 #[.slice A ms.length cap,.func (.func 53) #[] #[v0,v1]] w (Rt w (iv (idxI P (ms)))):=by
 unfold maxLen at hm;have HH:=Lq H;have HCL:=Lq hcl;clear H hcl;go_enter Tryz.func99,Tryz.ntmps99
 go_wp2
 go_loopw [8] (fun i wr=>∃ k : Nat,k ≤ ms.length ∧ i = iv k ∧ Hid (anyTo P ms k = false) ∧ Hid (BW w wr)) (fun i _=>ms.length - (intOf i).toNat)
 case atStart=>exact ⟨0,Nat.zero_le _,rfl,Lq rfl,Lq (belowR _)⟩
 case round =>
  obtain ⟨k,hk,rfl,HN,HBR⟩:=hrel;by_cases hlt : k < ms.length
  ·obtain ⟨m,hx⟩ : ∃ x,ms[k]? = some x:=⟨_,List.getElem?_eq_getElem hlt⟩;obtain ⟨b,off,rfl,_,c0⟩:=(HH.out.below HBR.out hB) k m hx;have HC:=Lq (HCL.out wr m HBR.out (List.mem_iff_getElem?.2 ⟨k,hx⟩));have HX : Hid (ms[k]? = some m):=Lq hx;clear hx HCL;obtain ⟨bp,hbp⟩:=ex (P m);have HBP:=Lq hbp;simp only [hbp] at HC;clear hbp;go_wp2_with fail
   refine HC.out.mono ?_;rintro e w1 ⟨rfl,hb⟩;have HB1:=Lq (belowT HBR.out hb);clear hb c0;cases bp
   ·go_wp2_with fail
    go_roundw
    case rel=>exact ⟨k + 1,by omega,by go_num,Lq (anyTo_snoc HX.out HN.out HBP.out),HB1⟩
    case measure=>simp [intOf]; omega
   ·go_wp2_with fail
    go_ret
    exact ⟨ret_int (idxI_found HX.out HBP.out HN.out).1.symm,HB1.out⟩
  ·go_wp2_with fail
   go_ret
   refine ⟨ret_int (idxI_no ?_).symm,HBR.out⟩;have hn:=HN.out;unfold anyTo at hn;rw [List.take_of_length_le (by omega)] at hn
   exact hn
theorem con_over (P : ByteArray → Bool) (A : Option Addr) (ms : List ByteArray) (B cap : Nat) (v0 v1 : Value) (w : World) (hm : ms.length ≤ maxLen) (hB : B ≤ w.heap.size) (H : Rd1 .string w B A ms) (hcl : ∀ W m,BW w W → m ∈ ms → Calls Tryz.prog 53 #[.string m,v0,v1] W (Rt W (.bool (P m)))) :
  Calls Tryz.prog 52 #[.slice A ms.length cap,.func (.func 53) #[] #[v0,v1]] w (Rt w (.bool (anyP P (ms)))):=by
 have HI:=Lq (idx_over P A ms B cap v0 v1 w hm hB H hcl);clear H hcl;obtain ⟨r,hr⟩:=ex (idxI P ms);rw [hr] at HI;have hd : decide (0 ≤ r) = anyP P ms:=by
  unfold anyP;cases h : ms.any P
  ·rw [← hr,idxI_no h]; rfl
  ·have:=idxI_yes h;rw [hr] at this
   simpa using this
 have HD:=Lq hd;clear hr hd;go_enter Tryz.func52,Tryz.ntmps52
 go_wp2_with fail
 refine HI.out.mono ?_;rintro e w1 ⟨rfl,hb⟩;go_wp2_with fail
 go_ret
 exact ⟨ret_bool HD.out,hb⟩
structure OverAt (w : World) (gn go gs : Nat) (s : ByteArray) (A : Option Addr) (cap : Nat) (ms : List HuM) : Prop where
 nm : w.cell? ⟨gn,0,none⟩ = some (.string s)
 fn : w.cell? ⟨go,0,none⟩ = some (.func (.func 50) #[] #[.pointer (some ⟨gn,0,none⟩),.pointer (some ⟨go,0,none⟩),.pointer (some ⟨gs,0,none⟩)])
 sh : w.cell? ⟨gs,0,none⟩ = some (.slice A ms.length cap)
 sl : SlM w w.heap.size A cap ms
theorem OverAt.below {w W : World} {gn go gs cap : Nat} {s : ByteArray} {A : Option Addr} {ms : List HuM} (h : OverAt w gn go gs s A cap ms) (hb : BW w W) : OverAt W gn go gs s A cap ms :=
 ⟨keepC hb h.nm,keepC hb h.fn,keepC hb h.sh,(h.sl.below hb (Nat.le_refl _)).more hb.size⟩
theorem over53_any (gn go gs cap : Nat) (s o : ByteArray) (A : Option Addr) (ms : List HuM) (j : Nat) (y : HuM) (bj : Bool) (w : World) (h : OverAt w gn go gs s A cap ms) (hj : idxP (psOf ms) o = j) (hh : hasP (psOf ms) o = true) (hy : ms[j]? = some y)
  (hc : ∀ W,BW w W → Calls Tryz.prog 50 #[mV y,.pointer (some ⟨gn,0,none⟩),.pointer (some ⟨go,0,none⟩),.pointer (some ⟨gs,0,none⟩)] W (Rt W (.bool bj))) :
  Calls Tryz.prog 53 #[.string o,.pointer (some ⟨go,0,none⟩),.pointer (some ⟨gs,0,none⟩)] w (Rt w (.bool bj)):=by
 obtain ⟨hp,hl,_⟩:=posP_at hh;rw [hj] at hp hl;have hl2 : j < ms.length:=by simpa using hl
 have hmx:=h.sl.max;have hle:=h.sl.le;obtain ⟨b,off,rfl,hbB,hMy,c0,c1,c2,c3,c4,c5,c6⟩:=h.sl.rd.at hy;have HC:=Lq hc;have HF : Hid (∀ W,BW w W → Calls Tryz.prog 49 #[.pointer (some ⟨gs,0,none⟩),.string o] W (Rt W (iv (j : Int)))):=Lq fun W hb=>by
  have h2:=h.below hb;have:=find49_any (some ⟨b,off,none⟩) ms W.heap.size cap gs o W (Nat.le_refl _) (Nat.le_trans h2.sl.le h2.sl.max) h2.sl.rd h2.sh;rw [hp] at this;exact this
 obtain ⟨⟨yn,yk,yf,yl,yon,yw,yz⟩,yA,yc⟩:=y;have hfn:=h.fn;have hsh:=h.sh;have HS : Hid (∀ W,BW w W → W.cell? ⟨go,0,none⟩ = some (.func (.func 50) #[] #[.pointer (some ⟨gn,0,none⟩),.pointer (some ⟨go,0,none⟩),.pointer (some ⟨gs,0,none⟩)]) ∧ W.cell? ⟨gs,0,none⟩ = some (.slice (some ⟨b,off,none⟩) ms.length cap) ∧ W.cell? ⟨b,off + j * 7,none⟩ = some (.string yn) ∧ W.cell? ⟨b,off + j * 7 + 1,none⟩ = some (iv yk) ∧ W.cell? ⟨b,off + j * 7 + 2,none⟩ = some (iv yf) ∧ W.cell? ⟨b,off + j * 7 + 3,none⟩ = some (iv yl) ∧ W.cell? ⟨b,off + j * 7 + 4,none⟩ = some (.slice yA yon.length yc) ∧ W.cell? ⟨b,off + j * 7 + 5,none⟩ = some (iv yw) ∧ W.cell? ⟨b,off + j * 7 + 6,none⟩ = some (iv yz)):=Lq fun W hb=>⟨keepC hb hfn,keepC hb hsh,keepC hb c0,keepC hb c1,keepC hb c2,keepC hb c3,keepC hb c4,keepC hb c5,keepC hb c6⟩
 have hj0 : (0 : Int) ≤ (j : Int):=by omega
 have hj1 : (j : Int) < (ms.length : Int):=by omega
 simp only [maxLen] at hmx;have hm9 : ms.length ≤ 9223372036854775807:=by omega
 simp only at c0 c1 c2 c3 c4 c5 c6;clear h hc hp hl hj hh hy hMy hbB;go_enter Tryz.func53,Tryz.ntmps53
 go_wp2_with fail
 go_region_held3 (fun W=>W.cell? ⟨go,0,none⟩ = some (.func (.func 50) #[] #[.pointer (some ⟨gn,0,none⟩),.pointer (some ⟨go,0,none⟩),.pointer (some ⟨gs,0,none⟩)]) ∧ W.cell? ⟨gs,0,none⟩ = some (.slice (some ⟨b,off,none⟩) ms.length cap) ∧ W.cell? ⟨b,off + j * 7,none⟩ = some (.string yn) ∧ W.cell? ⟨b,off + j * 7 + 1,none⟩ = some (iv yk) ∧ W.cell? ⟨b,off + j * 7 + 2,none⟩ = some (iv yf) ∧ W.cell? ⟨b,off + j * 7 + 3,none⟩ = some (iv yl) ∧ W.cell? ⟨b,off + j * 7 + 4,none⟩ = some (.slice yA yon.length yc) ∧ W.cell? ⟨b,off + j * 7 + 5,none⟩ = some (iv yw) ∧ W.cell? ⟨b,off + j * 7 + 6,none⟩ = some (iv yz)) (first | exact HS.out _ (belowT (undrew0 hb7) hb8) | exact HS.out _ (undrew0 hb7) | exact HS.out _ (belowDr (belowR _))) ((first | (go_at_call 49; ((with_reducible refine (HF.out _ (belowDr (belowR _))).mono ?_); rintro e w7 ⟨rfl,hb7⟩)) | (go_at_call 50; ((with_reducible refine (HC.out _ (undrew0 hb7)).mono ?_); rintro e w8 ⟨rfl,hb8⟩))))
 go_wp2_with fail
 go_ret
 exact ⟨rfl,belowT (undrew0 hb7) hb8⟩
theorem over50_any (gn go gs cap : Nat) (s : ByteArray) (A : Option Addr) (ms : List HuM) (w : World) (h : OverAt w gn go gs s A cap ms) (hok : ShipOk (psOf ms)) : ∀ (n i : Nat) (m : HuM),i < n → ms[i]? = some m → ∀ W,BW w W → Calls Tryz.prog 50 #[mV m,.pointer (some ⟨gn,0,none⟩),.pointer (some ⟨go,0,none⟩),.pointer (some ⟨gs,0,none⟩)] W (Rt W (.bool (overAt (psOf ms) s i))):=by
 intro n;induction n with
 | zero=>intro i m hi; omega
 | succ n ih =>
  intro i m hi hm W hbW;have hw:=h.below hbW;have hM:=hw.sl.rd.ok m (List.mem_iff_getElem?.2 ⟨i,hm⟩);have hov:=overAt_eq (s:=s) (ps_at hm) (fun o ho=>(hok.below (ps_at hm) ho).1)
  obtain ⟨W1,hW1,hb1,hz1,hq⟩:=mBox W m;obtain ⟨g4,hg4⟩:=ex W.heap.size;rw [hg4] at hq;obtain ⟨bs,hbs⟩:=ex (standsB m.p s);obtain ⟨ba,hba⟩:=ex (anyP (fun o=>overAt (psOf ms) s (idxP (psOf ms) o)) m.p.on)
  have hov2 : overAt (psOf ms) s i = (bs || ba):=by rw [hov,hbs,← hba]; rfl
  rw [hov2];have HON : Hid (∀ X,BW W1 X → Calls Tryz.prog 51 #[mV m,.string s] X (Rt X (.bool bs))):=Lq fun X hb=>hbs ▸ on51_any m s X.heap.size X (Nat.le_refl _) ((hM.below (belowT hb1 hb) (Nat.le_refl _)).more (belowT hb1 hb).size)
  have HCO : Hid (∀ X,BW W1 X → Calls Tryz.prog 52 #[.slice m.A m.p.on.length m.cap,.func (.func 53) #[] #[.pointer (some ⟨go,0,none⟩),.pointer (some ⟨gs,0,none⟩)]] X (Rt X (.bool ba))):=Lq fun X hb=>by
   have hx:=h.below (belowT hbW (belowT hb1 hb));rw [← hba];refine con_over (fun o=>overAt (psOf ms) s (idxP (psOf ms) o)) m.A m.p.on X.heap.size m.cap _ _ X (Nat.le_trans hM.le hM.cm) (Nat.le_refl _) ((hM.below (belowT hb1 hb) (Nat.le_refl _)).more (belowT hb1 hb).size).on (fun X2 o hb2 ho=>?_)
   obtain ⟨hlt,y,hy,hyn,_⟩:=hok.below (ps_at hm) ho;have hh : hasP (psOf ms) o = true:=hasP_iff.2 ⟨y,List.mem_iff_getElem?.2 ⟨_,hy⟩,hyn⟩;obtain ⟨y2,hy2⟩ : ∃ y2,ms[idxP (psOf ms) o]? = some y2:=by
    rw [List.getElem?_map] at hy;cases hc : ms[idxP (psOf ms) o]? with
    | none=>rw [hc] at hy; cases hy
    | some y2=>exact ⟨y2,rfl⟩
   exact over53_any gn go gs cap s o A ms _ y2 _ X2 (hx.below hb2) rfl hh hy2 (fun X3 hb3=>ih _ y2 (by omega) hy2 X3 (belowT (belowT hbW (belowT hb1 hb)) (belowT hb2 hb3)))
  have HNM : Hid (∀ X,BW W1 X → X.cell? ⟨gn,0,none⟩ = some (.string s)):=Lq fun X hb=>(h.below (belowT hbW (belowT hb1 hb))).nm
  have HQ:=Lq hq;have HB1:=Lq hb1;have x0:=HNM.out _ (belowR _);obtain ⟨⟨yn,yk,yf,yl,yon,yw,yz⟩,yA,yc⟩:=m;obtain ⟨d0,d1,d2,d3,d4,d5,d6⟩:=hq.c7;clear ih hw hM hov hov2 hbs hba hb1 hz1 hq hm hi;clear h hok hbW;go_enter Tryz.func50,Tryz.ntmps50
  go_wp2_with fail
  refine (HON.out _ (belowR _)).mono ?_;rintro e w2 ⟨rfl,hb2⟩;have HB2:=Lq hb2;have d4:=(HQ.out.keep hb2).c 4;clear hb2;cases bs with
  | true =>
   go_wp2_with fail
   go_ret
   exact ⟨rfl,belowT HB1.out HB2.out⟩
  | false =>
   go_wp2_with fail
   refine (HCO.out _ HB2.out).mono ?_;rintro e w3 ⟨rfl,hb3⟩;go_wp2_with fail
   go_ret
   exact ⟨ret_bool (by simp),belowT HB1.out (belowT HB2.out hb3)⟩
def AbovePost (ms : List HuM) (cs : List HcM) (day : Int) (s : ByteArray) (w : World) (e : Ending) (w' : World) : Prop:=∃ (v : Value) (r : Int) (n : Nat) (l : List ByteArray),e = .returned (.tuple #[v,iv r]) ∧ BW w w' ∧ w'.ownsRow w.heap.size 9 1 v n (l.map .string) ∧ n = l.length ∧ (r = 0 ↔ (PlanOk (psOf ms) (csOf cs) ∧ inB 0 40000 day = true) ∧ hasP (shipOn day (psOf ms) (csOf cs)) s = true) ∧ (r = 0 → l = aboveL (shipOn day (psOf ms) (csOf cs)) s (shipOn day (psOf ms) (csOf cs)).length) ∧ (r ≠ 0 → l = [] ∧ (r = 4 ∨ ¬ (PlanOk (psOf ms) (csOf cs) ∧ inB 0 40000 day = true)))
theorem aboveNo {ms : List HuM} {cs : List HcM} {day : Int} {s : ByteArray} {w w' : World} {r : Int} (h0 : r ≠ 0) (hP : ¬ ((PlanOk (psOf ms) (csOf cs) ∧ inB 0 40000 day = true) ∧ hasP (shipOn day (psOf ms) (csOf cs)) s = true)) (h4 : r = 4 ∨ ¬ (PlanOk (psOf ms) (csOf cs) ∧ inB 0 40000 day = true)) (hb : BW w w') : AbovePost ms cs day s w (.returned (.tuple #[.slice none 0 0,iv r])) w' :=
 ⟨.slice none 0 0,r,0,[],rfl,hb,World.ownsRow_nil _ _ _ _,rfl,⟨fun h=>absurd h h0,fun h=>absurd h hP⟩,fun h=>absurd h h0,fun _=>⟨rfl,h4⟩⟩
theorem above9_any (A C : Option Addr) (ms : List HuM) (cs : List HcM) (B cap capc : Nat) (day : Int) (s : ByteArray) (w : World) (hB : B ≤ w.heap.size) (H : SlM w B A cap ms) (HC : SlC w B C capc cs) (HW : ∀ c ∈ cs,Lit.wf (.int .i64 c.what) = true) :
  Calls Tryz.prog 9 #[.agg #[.slice A ms.length cap,.slice C cs.length capc],iv day,.string s] w (AbovePost ms cs day s w):=by
 obtain ⟨W1,hW1⟩:=ex (w.alloc (.cells #[.slice A ms.length cap,.slice C cs.length capc] 27));obtain ⟨W2,hW2⟩:=ex (W1.alloc (.cells #[.string s] 9));obtain ⟨gp,hgp⟩:=ex w.heap.size;obtain ⟨g5,hg5⟩:=ex W1.heap.size;have z1 : W1.heap.size = w.heap.size + 1:=by rw [← hW1]; simp
 have b1 : BW w W1:=by rw [← hW1]; exact belowA (belowR w) _
 have b2 : BW W1 W2:=by rw [← hW2]; exact belowA (belowR _) _
 have q1 : Blk W1 gp 27 #[.slice A ms.length cap,.slice C cs.length capc]:=by rw [← hW1,← hgp]; exact Blk.new w 27 _
 have q2 : Blk W2 g5 9 #[.string s]:=by rw [← hW2,← hg5]; exact Blk.new W1 9 _
 have q2p:=q1.keep b2;have b3:=belowT b1 b2;have HOP : Hid (Calls Tryz.prog 47 #[.agg #[.slice A ms.length cap,.slice C cs.length capc],iv day] W2 (OpenPost ms cs day W2)):=Lq (open47_any A C ms cs B cap capc day W2 (Nat.le_trans hB b3.size) (H.below b3 hB) (HC.below b3 hB) HW);have HB3:=Lq b3;have HQ5:=Lq q2;have x0:=q2p.c 0;have x1:=q2p.c 1;clear H HC HW b1 b2 b3 q1 q2 q2p z1;go_enter Tryz.func9,Tryz.ntmps9
 go_wp2_with fail
 refine HOP.out.mono ?_;rintro e w3 ⟨r,Ax,n,c,rfl,hb,hiff,hyes⟩;obtain ⟨Wa,W4,hWa,hW4,hb4,hqa,hba,hq4⟩:=oneMade w3 109 (.slice none 0 0) (.slice Ax n c);obtain ⟨g8,hg8⟩:=ex w3.heap.size;rw [hg8] at hW4 hqa hq4;have HB34:=Lq hb4;have HIFF:=Lq hiff;have HYES:=Lq hyes;have HQ8:=Lq hq4;have HQ54:=Lq ((HQ5.out.keep hb).keep hb4);have HB4:=Lq (belowT HB3.out (belowT hb hb4));have af:=hqa.frozen 0;have ac:=hqa.c 0;have al:=hqa.lt;clear hb hiff hyes hb4 hqa hba hq4 x0 x1;by_cases hr : r = 0
 ·subst hr;have m0:=HQ8.out.c 0;have m5:=HQ54.out.c 0;obtain ⟨out,rfl,hps,hsl⟩:=HYES.out rfl;have HPL:=Lq (HIFF.out.1 rfl);have hso : ShipOk (psOf out):=hps ▸ shipOn_ok HPL.out.1 day;have h12 : out.length ≤ 12:=by
   have h:=hso.len
   simpa using h
  have HSO:=Lq hso;have HPS:=Lq hps;have HSL:=Lq ((hsl.below HB34.out (Nat.le_refl _)).more HB34.out.size);obtain ⟨ri,hri⟩:=ex (posP (psOf out) s);have HF : Hid (∀ W,BW W4 W → Calls Tryz.prog 49 #[.pointer (some ⟨g8,0,none⟩),.string s] W (Rt W (iv ri))):=Lq fun W hb=>by
   have h2:=(HSL.out.below hb (Nat.le_refl _)).more hb.size;exact hri ▸ find49_any Ax out W.heap.size c g8 s W (Nat.le_refl _) (Nat.le_trans h2.le h2.max) h2.rd ((HQ8.out.keep hb).c 0)
  have KR:=Lq hri;clear hps hsl hso hri HYES HIFF;go_wp2_with fail
  refine (HF.out _ (belowR _)).mono ?_;rintro e w5 ⟨rfl,hb⟩;have HB5:=Lq hb;clear hb af ac al m0 m5 hWa hW4 hg8 hW1 hW2 hgp hg5;have HB05:=Lq (belowT HB4.out HB5.out);by_cases hr0 : ri < 0
  ·go_wp2_with fail
   go_ret2
   refine aboveNo (by decide) (fun h=>?_) (.inl rfl) HB05.out
   have h1:=posP_neg.1 (by rw [KR.out]; exact hr0 : posP (psOf out) s < 0)
   rw [← HPS.out,h1] at h;cases h.2
  ·have hh : hasP (psOf out) s = true:=by
    cases h : hasP (psOf out) s with
    | true=>rfl
    | false=>have:=posP_neg.2 h; rw [KR.out] at this; exact absurd this hr0
   have HH:=Lq hh;obtain ⟨Wb,W6,hWb,hW6,hb6,hqb,hbb,hq6⟩:=oneMade w5 114 .nilFunc (.func (.func 50) #[] #[.pointer (some ⟨g5,0,none⟩),.pointer (some ⟨w5.heap.size,0,none⟩),.pointer (some ⟨g8,0,none⟩)]);obtain ⟨g9,hg9⟩:=ex w5.heap.size;rw [hg9] at hW6 hqb hq6;have HB6:=Lq hb6;have hb56:=belowT HB5.out hb6;have HQ8':=Lq (HQ8.out.keep hb56);have HQ9:=Lq hq6;have HOV : Hid (OverAt W6 g5 g9 g8 s Ax c out):=Lq ⟨(HQ54.out.keep hb56).c 0,hq6.c 0,(HQ8.out.keep hb56).c 0,(HSL.out.below hb56 (Nat.le_refl _)).more hb56.size⟩;have af:=hqb.frozen 0;have ac:=hqb.c 0;have al:=hqb.lt;have m8:=HQ8'.out.c 0;have HB06:=Lq (belowT HB4.out hb56);clear hh hb6 hqb hbb hq6 hb56;obtain ⟨i9,hi9,hz90,hz91,hz92⟩:=info_parts Tryz.info9;go_wp2_with fail
   clear af ac al m8 hWb hW6 hg9;go_loopw [6,31] (fun v i wr=>∃ k : Nat,k ≤ out.length ∧ i = iv k ∧ Hid (wr.ownsRow W6.heap.size 9 1 v (aboveL (psOf out) s k).length ((aboveL (psOf out) s k).map .string)) ∧ Hid (BW W6 wr)) (fun _ i _=>out.length - (intOf i).toNat)
   case atStart=>exact ⟨0,Nat.zero_le _,rfl,Lq (World.ownsRow_nil _ _ _ _),Lq (belowR _)⟩
   case round =>
    obtain ⟨k,hk,rfl,HRW,HBR⟩:=hrel;have hk0 : (0 : Int) ≤ (k : Int):=by omega
    by_cases hlt : k < out.length
    ·obtain ⟨y,hy⟩ : ∃ x,out[k]? = some x:=⟨_,List.getElem?_eq_getElem hlt⟩;have hov:=HOV.out.below HBR.out;obtain ⟨b,off,hA,hbB,hMy,c0,c1,c2,c3,c4,c5,c6⟩:=hov.sl.rd.at hy;have hsu:=aboveL_succ (s:=s) (ps_at hy);obtain ⟨bo,hbo⟩:=ex (overAt (psOf out) s k);have HCO : Hid (∀ W,BW wr W → Calls Tryz.prog 50 #[mV y,.pointer (some ⟨g5,0,none⟩),.pointer (some ⟨g9,0,none⟩),.pointer (some ⟨g8,0,none⟩)] W (Rt W (.bool bo))):=Lq fun W hb=>hbo ▸ over50_any g5 g9 g8 c s Ax out W6 HOV.out HSO.out (k + 1) k y (by omega) hy W (belowT HBR.out hb)
     rw [hbo] at hsu;have HSU:=Lq hsu;have HLN : Hid ((aboveL (psOf out) s k).length ≤ k):=Lq (by unfold aboveL; exact Nat.le_trans (List.length_filterMap_le _ _) (by simp))
     have hfn:=(HQ9.out.keep HBR.out).c 0;obtain ⟨⟨yn,yk,yf,yl,yon,yw,yz⟩,yA,yc⟩:=y;subst hA;simp only at c0 c1 c2 c3 c4 c5 c6 HCO;obtain ⟨Wc,W7,hWc,hW7,hb7,hqc,hbc,hq7⟩:=partMade wr yn yk yf yl yw yz yA yc yon.length;obtain ⟨g2,hg2⟩:=ex wr.heap.size;rw [hg2] at hW7 hqc hq7;have HB7:=Lq hb7;have HQ7:=Lq hq7;obtain ⟨f0,f1,f2,f3,f4,f5,f6⟩:=hqc.f7;obtain ⟨e0,e1,e2,e3,e4,e5,e6⟩:=hqc.c7;have el:=hqc.lt;obtain ⟨d0,d1,d2,d3,d4,d5,d6⟩:=hq7.c7;have hfn7:=keepC hb7 hfn;clear hMy hy hb7 hqc hbc hq7 hov hbo hsu hbB;go_wp2_with fail
     refine (HCO.out _ HB7.out).mono ?_;rintro e w8 ⟨rfl,hb8⟩;have HB8:=Lq (belowT HB7.out hb8);have d0:=(HQ7.out.keep hb8).c 0;have HRW8:=Lq (own_below HRW.out HB8.out);have HB68:=Lq (belowT HBR.out HB8.out);clear hb8 c0 c1 c2 c3 c4 c5 c6 d1 d2 d3 d4 d5 d6 e0 e1 e2 e3 e4 e5 e6 f0 f1 f2 f3 f4 f5 f6 el hWc hW7 hg2 hfn hfn7;cases bo with
     | true =>
      have HAL:=Lq (HRW8.out.alloc (.cells #[.string yn] 9));have hln:=HLN.out;go_wp2_with (at_builtin; refine wpList_append_own _ rfl _ _ 45 rfl W6.heap.size 9 i9 (.string ⟨#[]⟩) 1 16 Tryz.underlying45 hi9 hz90 hz91 hz92 rfl (by decide) _ _ _ rfl HAL.out ⟨w8.heap.size,0,none⟩ 1 1 [.string yn] rfl rfl ?d1 ?d2 ?d3 ?d4 ?d5 ?_)
      case d1=>exact one_new _ _ _
      case d2=>simp [Value.oneCell']
      case d3=>unfold maxLen; omega
      case d4=>omega
      case d5=>have:=HB68.out.size; simp only [World.size_alloc]; omega
      intro v9 w9 hown9 hg9 _;have hb9 : BW W6 w9:=grownB HAL.out hg9 (Nat.le_refl _) (belowA HB68.out _);have HB9:=Lq hb9;have HO9:=Lq hown9;clear hown9 hg9 hb9 d0;go_wp2_with fail
      go_roundw
      case measure=>simp [intOf]; omega
      case rel =>
       refine ⟨k + 1,by omega,by go_num,Lq ?_,HB9⟩
       rw [HSU.out,if_pos (by trivial),List.length_append,List.map_append]
       exact HO9.out
     | false =>
      go_wp2_with fail
      go_roundw
      case measure=>simp [intOf]; omega
      case rel =>
       refine ⟨k + 1,by omega,by go_num,Lq ?_,HB68⟩
       rw [HSU.out,if_neg (by simp),List.append_nil]
       exact HRW8.out
    ·obtain rfl : k = out.length:=by omega
     go_wp2_with fail
     go_ret2
     have hpl : (psOf out).length = out.length:=by simp
     refine ⟨_,0,_,aboveL (psOf out) s out.length,rfl,belowT HB06.out HBR.out,own_base HRW.out HB06.out.size,rfl,⟨fun _=>⟨HPL.out,by rw [← HPS.out]; exact HH.out⟩,fun _=>rfl⟩,fun _=>by rw [← HPS.out,hpl],fun h=>absurd rfl h⟩
 ·have hr1 : (r != 0) = true:=by simpa using hr
  go_wp2_with fail
  go_ret2
  exact aboveNo hr (fun h=>hr (HIFF.out.2 h.1)) (.inr fun h=>hr (HIFF.out.2 h)) HB4.out
end Go.Proofs.YtpgfldcoojfheaaGreatDoor
namespace Go.Proofs
open Go.Shelf
def Tryz.lays169_ren : Go.Shelf.Ren:=⟨fun | 169=>117 | n=>n,fun | 70=>194 | 9=>9 | 0=>0 | 72=>197 | 37=>195 | 127=>227 | 3=>3 | 5=>5 | n=>n,fun | n=>n⟩
theorem Tryz.lays169 : Go.Proofs.Lays.n169 Tryz.prog Tryz.lays169_ren:={
 mixed:=by kernel_rfl
 f169:=Tryz.func117.trans (congrArg some (by kernel_rfl))
 t0:=Tryz.underlying0
 a0:=Tryz.isAgg0
 z0:=Tryz.sizeOf0
 v0:=Tryz.zeroValue0
 t3:=Tryz.underlying3
 a3:=Tryz.isAgg3
 z3:=Tryz.sizeOf3
 v3:=Tryz.zeroValue3
 t9:=Tryz.underlying9
 a9:=Tryz.isAgg9
 z9:=Tryz.sizeOf9
 v9:=Tryz.zeroValue9
 t37:=Tryz.underlying195
 a37:=Tryz.isAgg195
 z37:=Tryz.sizeOf195
 v37:=Tryz.zeroValue195
 t70:=Tryz.underlying194
 a70:=Tryz.isAgg194
 z70:=Tryz.sizeOf194
 v70:=Tryz.zeroValue194
 t72:=Tryz.underlying197
 a72:=Tryz.isAgg197
 z72:=Tryz.sizeOf197
 v72:=Tryz.zeroValue197
 t127:=Tryz.underlying227
 a127:=Tryz.isAgg227
 z127:=Tryz.sizeOf227
 v127:=Tryz.zeroValue227 }
theorem Tryz.Builder_Extra_169 : Builder.Extra Tryz.prog Tryz.lays169_ren:={
 sizeBuilder:=by kernel_rfl
 liesBuilder:=by kernel_rfl
 t5:=Tryz.underlying5
 a5:=Tryz.isAgg5
 z5:=Tryz.sizeOf5
 v5:=Tryz.zeroValue5
 infoByte:=by kernel_rfl
 cellsByte:=by kernel_rfl
 sizeByte:=by kernel_rfl
 neB5:=by decide }
open Go.RowKit in
theorem Tryz.Builder_String_any (B b : Nat) (l : List UInt8) (w : World) (h : Lib.IsBuilder 197 5 B b (Lib.byteCells l) w) (hBw : B ≤ w.heap.size) :
  Calls Tryz.prog 117 #[.pointer (some ⟨b,0,none⟩)] w fun e w'=>e = .returned (.string ⟨l.toArray⟩) ∧ Below B w w':=Any.Builder_String_any Tryz.lays169 Tryz.Builder_Extra_169 B b l w h hBw
def Tryz.lays156_ren : Go.Shelf.Ren:=⟨fun | 156=>114 | 165=>134 | 166=>113 | 169=>117 | 240=>133 | 241=>168 | 276=>167 | 277=>189 | n=>n,fun | 31=>45 | 9=>9 | 3=>3 | 4=>4 | 0=>0 | 20=>20 | 72=>197 | 76=>200 | 70=>194 | 37=>195 | 75=>199 | 127=>227 | 164=>249 | 5=>5 | 80=>85 | n=>n,fun | n=>n⟩
theorem Tryz.lays156 : Go.Proofs.Lays.n156 Tryz.prog Tryz.lays156_ren:={
 mixed:=by kernel_rfl
 f156:=Tryz.func114.trans (congrArg some (by kernel_rfl))
 f165:=Tryz.func134.trans (congrArg some (by kernel_rfl))
 f166:=Tryz.func113.trans (congrArg some (by kernel_rfl))
 f169:=Tryz.func117.trans (congrArg some (by kernel_rfl))
 f240:=Tryz.func133.trans (congrArg some (by kernel_rfl))
 f241:=Tryz.func168.trans (congrArg some (by kernel_rfl))
 f276:=Tryz.func167.trans (congrArg some (by kernel_rfl))
 f277:=Tryz.func189.trans (congrArg some (by kernel_rfl))
 t0:=Tryz.underlying0
 a0:=Tryz.isAgg0
 z0:=Tryz.sizeOf0
 v0:=Tryz.zeroValue0
 t3:=Tryz.underlying3
 a3:=Tryz.isAgg3
 z3:=Tryz.sizeOf3
 v3:=Tryz.zeroValue3
 t4:=Tryz.underlying4
 a4:=Tryz.isAgg4
 z4:=Tryz.sizeOf4
 v4:=Tryz.zeroValue4
 t9:=Tryz.underlying9
 a9:=Tryz.isAgg9
 z9:=Tryz.sizeOf9
 v9:=Tryz.zeroValue9
 t20:=Tryz.underlying20
 a20:=Tryz.isAgg20
 z20:=Tryz.sizeOf20
 v20:=Tryz.zeroValue20
 t31:=Tryz.underlying45
 a31:=Tryz.isAgg45
 z31:=Tryz.sizeOf45
 v31:=Tryz.zeroValue45
 t37:=Tryz.underlying195
 a37:=Tryz.isAgg195
 z37:=Tryz.sizeOf195
 v37:=Tryz.zeroValue195
 t70:=Tryz.underlying194
 a70:=Tryz.isAgg194
 z70:=Tryz.sizeOf194
 v70:=Tryz.zeroValue194
 t72:=Tryz.underlying197
 a72:=Tryz.isAgg197
 z72:=Tryz.sizeOf197
 v72:=Tryz.zeroValue197
 t75:=Tryz.underlying199
 a75:=Tryz.isAgg199
 z75:=Tryz.sizeOf199
 v75:=Tryz.zeroValue199
 t76:=Tryz.underlying200
 a76:=Tryz.isAgg200
 z76:=Tryz.sizeOf200
 v76:=Tryz.zeroValue200
 t127:=Tryz.underlying227
 a127:=Tryz.isAgg227
 z127:=Tryz.sizeOf227
 v127:=Tryz.zeroValue227
 t164:=Tryz.underlying249
 a164:=Tryz.isAgg249
 z164:=Tryz.sizeOf249
 v164:=Tryz.zeroValue249 }
theorem Tryz.Builder_Extra_156 : Builder.Extra Tryz.prog Tryz.lays156_ren:={
 sizeBuilder:=by kernel_rfl
 liesBuilder:=by kernel_rfl
 t5:=Tryz.underlying5
 a5:=Tryz.isAgg5
 z5:=Tryz.sizeOf5
 v5:=Tryz.zeroValue5
 infoByte:=by kernel_rfl
 cellsByte:=by kernel_rfl
 sizeByte:=by kernel_rfl
 neB5:=by decide }
open Go.RowKit in
theorem Tryz.strings_Join (bk o c : Nat) (xs : List ByteArray) (sep : ByteArray) (w : World) (hcells : ∀ (j : Nat) x,xs[j]? = some x → w.cell? ⟨bk,o + j,none⟩ = some (.string x)) (hbk : bk < w.heap.size) (hN : xs.length ≤ 140737488355328) (hcap : xs.length ≤ c) (hlen : (Lib.join (xs.map (·.data.toList)) sep.data.toList).length ≤ 140737488355328) :
  Calls Tryz.prog 114 #[.slice (some ⟨bk,o,none⟩) xs.length c,.string sep] w fun e w'=>e = .returned (.string ⟨(Lib.join (xs.map (·.data.toList)) sep.data.toList).toArray⟩) ∧ Below w.heap.size w w':=Any.strings_Join Tryz.lays156 Tryz.Builder_Extra_156 bk o c xs sep w hcells hbk hN hcap hlen
def Tryz.lays172_ren : Go.Shelf.Ren:=⟨fun | 172=>140 | 244=>177 | 245=>178 | 247=>197 | 279=>198 | 280=>199 | 281=>200 | 282=>201 | 287=>207 | 316=>208 | 171=>116 | 205=>209 | 321=>212 | 322=>213 | 243=>135 | 246=>169 | 283=>190 | 284=>191 | 285=>192 | 286=>193 | 129=>166 | 317=>203 | 318=>204 | 319=>205 | 320=>206 | 337=>210 | 338=>211 | n=>n,fun | 9=>9 | 3=>3 | 75=>199 | 76=>200 | 4=>4 | 5=>5 | 167=>274 | 37=>195 | 0=>0 | 85=>275 | 2=>2 | 168=>277 | 53=>248 | 175=>290 | 46=>224 | 210=>294 | 127=>227 | 145=>299 | 143=>297 | 21=>21 | 171=>268 | 173=>270 | 212=>284 | 51=>246 | 20=>20 | 213=>285 | 232=>300 | 233=>301 | 80=>85 | n=>n,fun | 15=>4 | 16=>5 | 17=>1 | 18=>6 | 19=>7 | n=>n⟩
theorem Tryz.lays172 : Go.Proofs.Lays.n172 Tryz.prog Tryz.lays172_ren:={
 mixed:=by kernel_rfl
 f129:=Tryz.func166.trans (congrArg some (by kernel_rfl))
 f171:=Tryz.func116.trans (congrArg some (by kernel_rfl))
 f172:=Tryz.func140.trans (congrArg some (by kernel_rfl))
 f205:=Tryz.func209.trans (congrArg some (by kernel_rfl))
 f243:=Tryz.func135.trans (congrArg some (by kernel_rfl))
 f244:=Tryz.func177.trans (congrArg some (by kernel_rfl))
 f245:=Tryz.func178.trans (congrArg some (by kernel_rfl))
 f246:=Tryz.func169.trans (congrArg some (by kernel_rfl))
 f247:=Tryz.func197.trans (congrArg some (by kernel_rfl))
 f279:=Tryz.func198.trans (congrArg some (by kernel_rfl))
 f280:=Tryz.func199.trans (congrArg some (by kernel_rfl))
 f281:=Tryz.func200.trans (congrArg some (by kernel_rfl))
 f282:=Tryz.func201.trans (congrArg some (by kernel_rfl))
 f283:=Tryz.func190.trans (congrArg some (by kernel_rfl))
 f284:=Tryz.func191.trans (congrArg some (by kernel_rfl))
 f285:=Tryz.func192.trans (congrArg some (by kernel_rfl))
 f286:=Tryz.func193.trans (congrArg some (by kernel_rfl))
 f287:=Tryz.func207.trans (congrArg some (by kernel_rfl))
 f316:=Tryz.func208.trans (congrArg some (by kernel_rfl))
 f317:=Tryz.func203.trans (congrArg some (by kernel_rfl))
 f318:=Tryz.func204.trans (congrArg some (by kernel_rfl))
 f319:=Tryz.func205.trans (congrArg some (by kernel_rfl))
 f320:=Tryz.func206.trans (congrArg some (by kernel_rfl))
 f321:=Tryz.func212.trans (congrArg some (by kernel_rfl))
 f322:=Tryz.func213.trans (congrArg some (by kernel_rfl))
 f337:=Tryz.func210.trans (congrArg some (by kernel_rfl))
 f338:=Tryz.func211.trans (congrArg some (by kernel_rfl))
 t0:=Tryz.underlying0
 a0:=Tryz.isAgg0
 z0:=Tryz.sizeOf0
 v0:=Tryz.zeroValue0
 t2:=Tryz.underlying2
 a2:=Tryz.isAgg2
 z2:=Tryz.sizeOf2
 v2:=Tryz.zeroValue2
 t3:=Tryz.underlying3
 a3:=Tryz.isAgg3
 z3:=Tryz.sizeOf3
 v3:=Tryz.zeroValue3
 t4:=Tryz.underlying4
 a4:=Tryz.isAgg4
 z4:=Tryz.sizeOf4
 v4:=Tryz.zeroValue4
 t5:=Tryz.underlying5
 a5:=Tryz.isAgg5
 z5:=Tryz.sizeOf5
 v5:=Tryz.zeroValue5
 t9:=Tryz.underlying9
 a9:=Tryz.isAgg9
 z9:=Tryz.sizeOf9
 v9:=Tryz.zeroValue9
 t20:=Tryz.underlying20
 a20:=Tryz.isAgg20
 z20:=Tryz.sizeOf20
 v20:=Tryz.zeroValue20
 t21:=Tryz.underlying21
 a21:=Tryz.isAgg21
 z21:=Tryz.sizeOf21
 v21:=Tryz.zeroValue21
 t37:=Tryz.underlying195
 a37:=Tryz.isAgg195
 z37:=Tryz.sizeOf195
 v37:=Tryz.zeroValue195
 t46:=Tryz.underlying224
 a46:=Tryz.isAgg224
 z46:=Tryz.sizeOf224
 v46:=Tryz.zeroValue224
 t51:=Tryz.underlying246
 a51:=Tryz.isAgg246
 z51:=Tryz.sizeOf246
 v51:=Tryz.zeroValue246
 t53:=Tryz.underlying248
 a53:=Tryz.isAgg248
 z53:=Tryz.sizeOf248
 v53:=Tryz.zeroValue248
 t75:=Tryz.underlying199
 a75:=Tryz.isAgg199
 z75:=Tryz.sizeOf199
 v75:=Tryz.zeroValue199
 t76:=Tryz.underlying200
 a76:=Tryz.isAgg200
 z76:=Tryz.sizeOf200
 v76:=Tryz.zeroValue200
 t85:=Tryz.underlying275
 a85:=Tryz.isAgg275
 z85:=Tryz.sizeOf275
 v85:=Tryz.zeroValue275
 t127:=Tryz.underlying227
 a127:=Tryz.isAgg227
 z127:=Tryz.sizeOf227
 v127:=Tryz.zeroValue227
 t143:=Tryz.underlying297
 a143:=Tryz.isAgg297
 z143:=Tryz.sizeOf297
 v143:=Tryz.zeroValue297
 t145:=Tryz.underlying299
 a145:=Tryz.isAgg299
 z145:=Tryz.sizeOf299
 v145:=Tryz.zeroValue299
 t167:=Tryz.underlying274
 a167:=Tryz.isAgg274
 z167:=Tryz.sizeOf274
 v167:=Tryz.zeroValue274
 t168:=Tryz.underlying277
 a168:=Tryz.isAgg277
 z168:=Tryz.sizeOf277
 v168:=Tryz.zeroValue277
 t171:=Tryz.underlying268
 a171:=Tryz.isAgg268
 z171:=Tryz.sizeOf268
 v171:=Tryz.zeroValue268
 t173:=Tryz.underlying270
 a173:=Tryz.isAgg270
 z173:=Tryz.sizeOf270
 v173:=Tryz.zeroValue270
 t175:=Tryz.underlying290
 a175:=Tryz.isAgg290
 z175:=Tryz.sizeOf290
 v175:=Tryz.zeroValue290
 t210:=Tryz.underlying294
 a210:=Tryz.isAgg294
 z210:=Tryz.sizeOf294
 v210:=Tryz.zeroValue294
 t212:=Tryz.underlying284
 a212:=Tryz.isAgg284
 z212:=Tryz.sizeOf284
 v212:=Tryz.zeroValue284
 t213:=Tryz.underlying285
 a213:=Tryz.isAgg285
 z213:=Tryz.sizeOf285
 t232:=Tryz.underlying300
 a232:=Tryz.isAgg300
 z232:=Tryz.sizeOf300
 v232:=Tryz.zeroValue300
 t233:=Tryz.underlying301
 a233:=Tryz.isAgg301
 z233:=Tryz.sizeOf301
 v233:=Tryz.zeroValue301
 g15:=by kernel_rfl
 g16:=by kernel_rfl
 g17:=by kernel_rfl
 g18:=by kernel_rfl
 g19:=by kernel_rfl }
open Go.RowKit in
theorem Tryz.strconv_Atoi (s : ByteArray) (n : Int) (hl : s.size ≤ 18) (h : Lib.atoi s.data.toList = some n) (w : World) :
  Calls Tryz.prog 140 #[.string s] w fun e w'=>e = .returned (.tuple #[.int .i64 n,.nilIface]) ∧ ∃ t,w' = Lib.bytesWorld w 5 t:=Any.strconv_Atoi Tryz.lays172 s n hl h w
def Tryz.laysM171_ren : Go.Shelf.Ren:=⟨fun | 171=>116 | 243=>135 | 246=>169 | 283=>190 | 284=>191 | 285=>192 | 286=>193 | 129=>166 | 317=>203 | 318=>204 | 319=>205 | 320=>206 | 337=>210 | 338=>211 | n=>n,fun | 3=>3 | 9=>9 | 2=>2 | 4=>4 | 171=>268 | 0=>0 | 53=>248 | 37=>195 | 5=>5 | 173=>270 | 212=>284 | 51=>246 | 20=>20 | 213=>285 | 46=>224 | 232=>300 | 233=>301 | n=>n,fun | 17=>1 | 18=>6 | 19=>7 | n=>n⟩
theorem Tryz.laysM171 : Go.Proofs.LaysM.n171 Tryz.prog Tryz.laysM171_ren:={
 mixed:=by kernel_rfl
 f129:=Tryz.func166.trans (congrArg some (by kernel_rfl))
 f171:=Tryz.func116.trans (congrArg some (by kernel_rfl))
 f243:=Tryz.func135.trans (congrArg some (by kernel_rfl))
 f246:=Tryz.func169.trans (congrArg some (by kernel_rfl))
 f283:=Tryz.func190.trans (congrArg some (by kernel_rfl))
 f284:=Tryz.func191.trans (congrArg some (by kernel_rfl))
 f285:=Tryz.func192.trans (congrArg some (by kernel_rfl))
 f286:=Tryz.func193.trans (congrArg some (by kernel_rfl))
 f317:=Tryz.func203.trans (congrArg some (by kernel_rfl))
 f318:=Tryz.func204.trans (congrArg some (by kernel_rfl))
 f319:=Tryz.func205.trans (congrArg some (by kernel_rfl))
 f320:=Tryz.func206.trans (congrArg some (by kernel_rfl))
 f337:=Tryz.func210.trans (congrArg some (by kernel_rfl))
 f338:=Tryz.func211.trans (congrArg some (by kernel_rfl))
 t0:=Tryz.underlying0
 a0:=Tryz.isAgg0
 z0:=Tryz.sizeOf0
 v0:=Tryz.zeroValue0
 t2:=Tryz.underlying2
 a2:=Tryz.isAgg2
 z2:=Tryz.sizeOf2
 v2:=Tryz.zeroValue2
 t3:=Tryz.underlying3
 a3:=Tryz.isAgg3
 z3:=Tryz.sizeOf3
 v3:=Tryz.zeroValue3
 t4:=Tryz.underlying4
 a4:=Tryz.isAgg4
 z4:=Tryz.sizeOf4
 v4:=Tryz.zeroValue4
 t5:=Tryz.underlying5
 a5:=Tryz.isAgg5
 z5:=Tryz.sizeOf5
 v5:=Tryz.zeroValue5
 t9:=Tryz.underlying9
 a9:=Tryz.isAgg9
 z9:=Tryz.sizeOf9
 v9:=Tryz.zeroValue9
 t20:=Tryz.underlying20
 a20:=Tryz.isAgg20
 z20:=Tryz.sizeOf20
 v20:=Tryz.zeroValue20
 t37:=Tryz.underlying195
 a37:=Tryz.isAgg195
 z37:=Tryz.sizeOf195
 v37:=Tryz.zeroValue195
 t46:=Tryz.underlying224
 a46:=Tryz.isAgg224
 z46:=Tryz.sizeOf224
 v46:=Tryz.zeroValue224
 t51:=Tryz.underlying246
 a51:=Tryz.isAgg246
 z51:=Tryz.sizeOf246
 v51:=Tryz.zeroValue246
 t53:=Tryz.underlying248
 a53:=Tryz.isAgg248
 z53:=Tryz.sizeOf248
 v53:=Tryz.zeroValue248
 t171:=Tryz.underlying268
 a171:=Tryz.isAgg268
 z171:=Tryz.sizeOf268
 v171:=Tryz.zeroValue268
 t173:=Tryz.underlying270
 a173:=Tryz.isAgg270
 z173:=Tryz.sizeOf270
 v173:=Tryz.zeroValue270
 t212:=Tryz.underlying284
 a212:=Tryz.isAgg284
 z212:=Tryz.sizeOf284
 v212:=Tryz.zeroValue284
 t213:=Tryz.underlying285
 a213:=Tryz.isAgg285
 z213:=Tryz.sizeOf285
 t232:=Tryz.underlying300
 a232:=Tryz.isAgg300
 z232:=Tryz.sizeOf300
 v232:=Tryz.zeroValue300
 t233:=Tryz.underlying301
 a233:=Tryz.isAgg301
 z233:=Tryz.sizeOf301
 v233:=Tryz.zeroValue301
 g17:=by kernel_rfl
 g18:=by kernel_rfl
 g19:=by kernel_rfl
 i0:=by kernel_rfl
 i2:=by kernel_rfl
 i3:=by kernel_rfl
 i4:=by kernel_rfl
 i5:=by kernel_rfl
 i9:=by kernel_rfl
 i20:=by kernel_rfl
 i37:=by kernel_rfl
 i46:=by kernel_rfl
 i51:=by kernel_rfl
 i53:=by kernel_rfl
 i171:=by kernel_rfl
 i173:=by kernel_rfl
 i212:=by kernel_rfl
 i232:=by kernel_rfl
 i233:=by kernel_rfl
 m17:=by kernel_rfl
 m18:=by kernel_rfl
 m19:=by kernel_rfl }
open Go.RowKit Go.Sort Go.Lib in
theorem Tryz.strconv_Itoa (n : Int) (h0 : -9223372036854775808 ≤ n) (h1 : n ≤ 9223372036854775807) (w : World) (htab : Lib.TabIs Tryz.prog w "internal/strconv.uint64pow10" .u64 Lib.pow10Tab) :
  Calls Tryz.prog 116 #[.int .i64 n] w fun e w'=>e = .returned (.string ⟨(Lib.itoa n).toArray⟩) ∧ ∃ k os,w' = grow (w.drewN k) os:=Any.strconv_Itoa Tryz.laysM171 n h0 h1 w htab
def Tryz.lays145_ren : Go.Shelf.Ren:=⟨fun | 145=>81 | 220=>118 | 219=>136 | 217=>170 | 225=>171 | 224=>172 | 267=>173 | 266=>194 | 314=>195 | n=>n,fun | 9=>9 | 4=>4 | 59=>163 | 3=>3 | 5=>5 | 46=>224 | 146=>272 | 51=>246 | n=>n,fun | 1=>0 | n=>n⟩
theorem Tryz.lays145 : Go.Proofs.Lays.n145 Tryz.prog Tryz.lays145_ren:={
 mixed:=by kernel_rfl
 f145:=Tryz.func81.trans (congrArg some (by kernel_rfl))
 f217:=Tryz.func170.trans (congrArg some (by kernel_rfl))
 f219:=Tryz.func136.trans (congrArg some (by kernel_rfl))
 f220:=Tryz.func118.trans (congrArg some (by kernel_rfl))
 f224:=Tryz.func172.trans (congrArg some (by kernel_rfl))
 f225:=Tryz.func171.trans (congrArg some (by kernel_rfl))
 f266:=Tryz.func194.trans (congrArg some (by kernel_rfl))
 f267:=Tryz.func173.trans (congrArg some (by kernel_rfl))
 f314:=Tryz.func195.trans (congrArg some (by kernel_rfl))
 t3:=Tryz.underlying3
 a3:=Tryz.isAgg3
 z3:=Tryz.sizeOf3
 v3:=Tryz.zeroValue3
 t4:=Tryz.underlying4
 a4:=Tryz.isAgg4
 z4:=Tryz.sizeOf4
 v4:=Tryz.zeroValue4
 t5:=Tryz.underlying5
 a5:=Tryz.isAgg5
 z5:=Tryz.sizeOf5
 v5:=Tryz.zeroValue5
 t9:=Tryz.underlying9
 a9:=Tryz.isAgg9
 z9:=Tryz.sizeOf9
 v9:=Tryz.zeroValue9
 t46:=Tryz.underlying224
 a46:=Tryz.isAgg224
 z46:=Tryz.sizeOf224
 v46:=Tryz.zeroValue224
 t51:=Tryz.underlying246
 a51:=Tryz.isAgg246
 z51:=Tryz.sizeOf246
 v51:=Tryz.zeroValue246
 t59:=Tryz.underlying163
 a59:=Tryz.isAgg163
 z59:=Tryz.sizeOf163
 v59:=Tryz.zeroValue163
 t146:=Tryz.underlying272
 a146:=Tryz.isAgg272
 z146:=Tryz.sizeOf272
 v146:=Tryz.zeroValue272
 g1:=by kernel_rfl }
open Go.RowKit Go.Lib in
theorem Tryz.strings_Cut (s sep : ByteArray) (m : Int) (w : World) (hs : s.size < 4294967281) (hm : w.cell? ⟨0,0,none⟩ = some (.int .i64 m)) :
  Calls Tryz.prog 81 #[.string s,.string sep] w fun e w'=>e = .returned (.tuple #[.string ⟨(Lib.cut s.data.toList sep.data.toList).1.toArray⟩,.string ⟨(Lib.cut s.data.toList sep.data.toList).2.1.toArray⟩,.bool (Lib.cut s.data.toList sep.data.toList).2.2]) ∧ ∃ n,w' = w.drewN n:=Any.strings_Cut Tryz.lays145 s sep m w hs hm
def Tryz.lays190_ren : Go.Shelf.Ren:=⟨fun | 190=>106 | 125=>131 | 258=>130 | 128=>165 | 129=>166 | 302=>156 | 303=>157 | 304=>158 | 305=>159 | 306=>160 | 307=>161 | 308=>162 | 309=>163 | 310=>164 | 333=>183 | 329=>184 | 330=>185 | 334=>186 | 335=>187 | 336=>188 | 344=>202 | n=>n,fun | 31=>45 | 9=>9 | 3=>3 | 46=>224 | 0=>0 | 51=>246 | 53=>248 | 4=>4 | 183=>238 | 182=>237 | 131=>243 | 5=>5 | 218=>261 | 222=>265 | 228=>280 | 229=>281 | n=>n,fun | n=>n⟩
theorem Tryz.lays190 : Go.Proofs.Lays.n190 Tryz.prog Tryz.lays190_ren:={
 mixed:=by kernel_rfl
 f125:=Tryz.func131.trans (congrArg some (by kernel_rfl))
 f128:=Tryz.func165.trans (congrArg some (by kernel_rfl))
 f129:=Tryz.func166.trans (congrArg some (by kernel_rfl))
 f190:=Tryz.func106.trans (congrArg some (by kernel_rfl))
 f258:=Tryz.func130.trans (congrArg some (by kernel_rfl))
 f302:=Tryz.func156.trans (congrArg some (by kernel_rfl))
 f303:=Tryz.func157.trans (congrArg some (by kernel_rfl))
 f304:=Tryz.func158.trans (congrArg some (by kernel_rfl))
 f305:=Tryz.func159.trans (congrArg some (by kernel_rfl))
 f306:=Tryz.func160.trans (congrArg some (by kernel_rfl))
 f307:=Tryz.func161.trans (congrArg some (by kernel_rfl))
 f308:=Tryz.func162.trans (congrArg some (by kernel_rfl))
 f309:=Tryz.func163.trans (congrArg some (by kernel_rfl))
 f310:=Tryz.func164.trans (congrArg some (by kernel_rfl))
 f329:=Tryz.func184.trans (congrArg some (by kernel_rfl))
 f330:=Tryz.func185.trans (congrArg some (by kernel_rfl))
 f333:=Tryz.func183.trans (congrArg some (by kernel_rfl))
 f334:=Tryz.func186.trans (congrArg some (by kernel_rfl))
 f335:=Tryz.func187.trans (congrArg some (by kernel_rfl))
 f336:=Tryz.func188.trans (congrArg some (by kernel_rfl))
 f344:=Tryz.func202.trans (congrArg some (by kernel_rfl))
 t0:=Tryz.underlying0
 a0:=Tryz.isAgg0
 z0:=Tryz.sizeOf0
 v0:=Tryz.zeroValue0
 t3:=Tryz.underlying3
 a3:=Tryz.isAgg3
 z3:=Tryz.sizeOf3
 v3:=Tryz.zeroValue3
 t4:=Tryz.underlying4
 a4:=Tryz.isAgg4
 z4:=Tryz.sizeOf4
 v4:=Tryz.zeroValue4
 t5:=Tryz.underlying5
 a5:=Tryz.isAgg5
 z5:=Tryz.sizeOf5
 v5:=Tryz.zeroValue5
 t9:=Tryz.underlying9
 a9:=Tryz.isAgg9
 z9:=Tryz.sizeOf9
 v9:=Tryz.zeroValue9
 t31:=Tryz.underlying45
 a31:=Tryz.isAgg45
 z31:=Tryz.sizeOf45
 v31:=Tryz.zeroValue45
 t46:=Tryz.underlying224
 a46:=Tryz.isAgg224
 z46:=Tryz.sizeOf224
 v46:=Tryz.zeroValue224
 t51:=Tryz.underlying246
 a51:=Tryz.isAgg246
 z51:=Tryz.sizeOf246
 v51:=Tryz.zeroValue246
 t53:=Tryz.underlying248
 a53:=Tryz.isAgg248
 z53:=Tryz.sizeOf248
 v53:=Tryz.zeroValue248
 t131:=Tryz.underlying243
 a131:=Tryz.isAgg243
 z131:=Tryz.sizeOf243
 v131:=Tryz.zeroValue243
 t182:=Tryz.underlying237
 a182:=Tryz.isAgg237
 z182:=Tryz.sizeOf237
 v182:=Tryz.zeroValue237
 t183:=Tryz.underlying238
 a183:=Tryz.isAgg238
 z183:=Tryz.sizeOf238
 v183:=Tryz.zeroValue238
 t218:=Tryz.underlying261
 a218:=Tryz.isAgg261
 z218:=Tryz.sizeOf261
 v218:=Tryz.zeroValue261
 t222:=Tryz.underlying265
 a222:=Tryz.isAgg265
 z222:=Tryz.sizeOf265
 v222:=Tryz.zeroValue265
 t228:=Tryz.underlying280
 a228:=Tryz.isAgg280
 z228:=Tryz.sizeOf280
 v228:=Tryz.zeroValue280
 t229:=Tryz.underlying281
 a229:=Tryz.isAgg281
 z229:=Tryz.sizeOf281
 v229:=Tryz.zeroValue281 }
open Go.Sort Go.RowKit in
theorem Tryz.slices_Sort_string (blk off cap : Nat) (ss : List (List UInt8)) (w : World) (hH : Holds encStr w blk off ss.toArray) (hblk : blk < w.heap.size) (hsz : ss.length < 4611686018427387904) :
  Calls Tryz.prog 106 #[.slice (some ⟨blk,off,none⟩) ss.length cap] w fun e w' =>
   e = .returned (.tuple #[]) ∧ ∃ n os,w' = grow (putRow encStr (Sort.ahead w n) blk off (ss.mergeSort fun x y=>decide (x ≤ y)).toArray) os:=Any.slices_Sort_string Tryz.lays190 blk off cap ss w hH hblk hsz
def Tryz.lays146_ren : Go.Shelf.Ren:=⟨fun | 146=>83 | 221=>119 | 268=>137 | 138=>138 | 143=>139 | 195=>174 | 197=>175 | 218=>176 | 219=>136 | 260=>196 | 217=>170 | 225=>171 | 224=>172 | 267=>173 | 266=>194 | 314=>195 | n=>n,fun | 9=>9 | 31=>45 | 3=>3 | 4=>4 | 0=>0 | 105=>254 | 21=>21 | 5=>5 | 46=>224 | 119=>286 | 139=>289 | 138=>288 | 146=>272 | 51=>246 | n=>n,fun | 1=>0 | 3=>2 | 4=>3 | n=>n⟩
theorem Tryz.lays146 : Go.Proofs.Lays.n146 Tryz.prog Tryz.lays146_ren:={
 mixed:=by kernel_rfl
 f138:=Tryz.func138.trans (congrArg some (by kernel_rfl))
 f143:=Tryz.func139.trans (congrArg some (by kernel_rfl))
 f146:=Tryz.func83.trans (congrArg some (by kernel_rfl))
 f195:=Tryz.func174.trans (congrArg some (by kernel_rfl))
 f197:=Tryz.func175.trans (congrArg some (by kernel_rfl))
 f217:=Tryz.func170.trans (congrArg some (by kernel_rfl))
 f218:=Tryz.func176.trans (congrArg some (by kernel_rfl))
 f219:=Tryz.func136.trans (congrArg some (by kernel_rfl))
 f221:=Tryz.func119.trans (congrArg some (by kernel_rfl))
 f224:=Tryz.func172.trans (congrArg some (by kernel_rfl))
 f225:=Tryz.func171.trans (congrArg some (by kernel_rfl))
 f260:=Tryz.func196.trans (congrArg some (by kernel_rfl))
 f266:=Tryz.func194.trans (congrArg some (by kernel_rfl))
 f267:=Tryz.func173.trans (congrArg some (by kernel_rfl))
 f268:=Tryz.func137.trans (congrArg some (by kernel_rfl))
 f314:=Tryz.func195.trans (congrArg some (by kernel_rfl))
 t0:=Tryz.underlying0
 a0:=Tryz.isAgg0
 z0:=Tryz.sizeOf0
 v0:=Tryz.zeroValue0
 t3:=Tryz.underlying3
 a3:=Tryz.isAgg3
 z3:=Tryz.sizeOf3
 v3:=Tryz.zeroValue3
 t4:=Tryz.underlying4
 a4:=Tryz.isAgg4
 z4:=Tryz.sizeOf4
 v4:=Tryz.zeroValue4
 t5:=Tryz.underlying5
 a5:=Tryz.isAgg5
 z5:=Tryz.sizeOf5
 v5:=Tryz.zeroValue5
 t9:=Tryz.underlying9
 a9:=Tryz.isAgg9
 z9:=Tryz.sizeOf9
 v9:=Tryz.zeroValue9
 t21:=Tryz.underlying21
 a21:=Tryz.isAgg21
 z21:=Tryz.sizeOf21
 v21:=Tryz.zeroValue21
 t31:=Tryz.underlying45
 a31:=Tryz.isAgg45
 z31:=Tryz.sizeOf45
 v31:=Tryz.zeroValue45
 t46:=Tryz.underlying224
 a46:=Tryz.isAgg224
 z46:=Tryz.sizeOf224
 v46:=Tryz.zeroValue224
 t51:=Tryz.underlying246
 a51:=Tryz.isAgg246
 z51:=Tryz.sizeOf246
 v51:=Tryz.zeroValue246
 t105:=Tryz.underlying254
 a105:=Tryz.isAgg254
 z105:=Tryz.sizeOf254
 v105:=Tryz.zeroValue254
 t119:=Tryz.underlying286
 a119:=Tryz.isAgg286
 z119:=Tryz.sizeOf286
 t138:=Tryz.underlying288
 a138:=Tryz.isAgg288
 z138:=Tryz.sizeOf288
 v138:=Tryz.zeroValue288
 t139:=Tryz.underlying289
 a139:=Tryz.isAgg289
 z139:=Tryz.sizeOf289
 v139:=Tryz.zeroValue289
 t146:=Tryz.underlying272
 a146:=Tryz.isAgg272
 z146:=Tryz.sizeOf272
 v146:=Tryz.zeroValue272
 g1:=by kernel_rfl
 g3:=by kernel_rfl
 g4:=by kernel_rfl }
open Go.RowKit Go.Lib in
theorem Tryz.strings_Split (s sep : ByteArray) (m : Int) (w : World) (hs : s.size < 4294967281) (hm : w.cell? ⟨0,0,none⟩ = some (.int .i64 m)) (h1 : 1 ≤ sep.size) :
  Calls Tryz.prog 83 #[.string s,.string sep] w fun e w' =>
   e = .returned (.slice (some ⟨w.heap.size,0,none⟩) (Lib.countB s sep + 1) (Lib.countB s sep + 1)) ∧ w' = w.alloc (.cells ((Lib.splitB sep 0 (Lib.countB s sep) s).map Value.string).toArray 9):=Any.strings_Split Tryz.lays146 (by kernel_rfl) s sep m w hs hm h1
def Tryz.lays109_ren : Go.Shelf.Ren:=⟨fun | 109=>120 | n=>n,fun | 31=>45 | 9=>9 | 3=>3 | 0=>0 | 4=>4 | n=>n,fun | n=>n⟩
theorem Tryz.lays109 : Go.Proofs.Lays.n109 Tryz.prog Tryz.lays109_ren:={
 mixed:=by kernel_rfl
 f109:=Tryz.func120.trans (congrArg some (by kernel_rfl))
 t0:=Tryz.underlying0
 a0:=Tryz.isAgg0
 z0:=Tryz.sizeOf0
 v0:=Tryz.zeroValue0
 t3:=Tryz.underlying3
 a3:=Tryz.isAgg3
 z3:=Tryz.sizeOf3
 v3:=Tryz.zeroValue3
 t4:=Tryz.underlying4
 a4:=Tryz.isAgg4
 z4:=Tryz.sizeOf4
 v4:=Tryz.zeroValue4
 t9:=Tryz.underlying9
 a9:=Tryz.isAgg9
 z9:=Tryz.sizeOf9
 v9:=Tryz.zeroValue9
 t31:=Tryz.underlying45
 a31:=Tryz.isAgg45
 z31:=Tryz.sizeOf45
 v31:=Tryz.zeroValue45 }
open Go.Lib in
theorem Tryz.slices_Index_string (b off n c : Nat) (zs : List ByteArray) (x : ByteArray) (w : World) (hz : n ≤ zs.length) (hbig : n ≤ 9223372036854775807) (hc : ∀ j,j < zs.length → w.cell? ⟨b,off + j,none⟩ = some (.string (zs.getD j ByteArray.empty))) :
  Calls Tryz.prog 120 #[.slice (some ⟨b,off,none⟩) n c,.string x] w fun e w'=>e = .returned (.int .i64 (Lib.idxOfS (zs.take n) x)) ∧ w' = w:=Any.slices_Index_string Tryz.lays109 b off n c zs x w hz hbig hc
def Tryz.lays113_ren : Go.Shelf.Ren:=⟨fun | 113=>78 | n=>n,fun | 28=>69 | 3=>3 | 4=>4 | 9=>9 | 20=>20 | 0=>0 | n=>n,fun | n=>n⟩
theorem Tryz.lays113 : Go.Proofs.Lays.n113 Tryz.prog Tryz.lays113_ren:={
 mixed:=by kernel_rfl
 f113:=Tryz.func78.trans (congrArg some (by kernel_rfl))
 t0:=Tryz.underlying0
 a0:=Tryz.isAgg0
 z0:=Tryz.sizeOf0
 v0:=Tryz.zeroValue0
 t3:=Tryz.underlying3
 a3:=Tryz.isAgg3
 z3:=Tryz.sizeOf3
 v3:=Tryz.zeroValue3
 t4:=Tryz.underlying4
 a4:=Tryz.isAgg4
 z4:=Tryz.sizeOf4
 v4:=Tryz.zeroValue4
 t9:=Tryz.underlying9
 a9:=Tryz.isAgg9
 z9:=Tryz.sizeOf9
 v9:=Tryz.zeroValue9
 t20:=Tryz.underlying20
 a20:=Tryz.isAgg20
 z20:=Tryz.sizeOf20
 v20:=Tryz.zeroValue20
 t28:=Tryz.underlying69
 a28:=Tryz.isAgg69
 z28:=Tryz.sizeOf69
 v28:=Tryz.zeroValue69 }
open Go.Lib in
theorem Tryz.slices_Max_int (b off n c : Nat) (zs : List Int) (w : World) (hn : 0 < n) (hz : n ≤ zs.length) (hbig : n ≤ 9223372036854775807) (hc : ∀ j,j < zs.length → w.cell? ⟨b,off + j,none⟩ = some (.int .i64 (zs.getD j 0))) :
  Calls Tryz.prog 78 #[.slice (some ⟨b,off,none⟩) n c] w fun e w'=>e = .returned (.int .i64 (Lib.maxOf (zs.take n))) ∧ w' = w:=Any.slices_Max_int Tryz.lays113 b off n c zs w hn hz hbig hc
def Tryz.lays193_ren : Go.Shelf.Ren:=⟨fun | 193=>71 | n=>n,fun | 31=>45 | 9=>9 | 4=>4 | 3=>3 | 0=>0 | n=>n,fun | n=>n⟩
theorem Tryz.lays193 : Go.Proofs.Lays.n193 Tryz.prog Tryz.lays193_ren:={
 mixed:=by kernel_rfl
 f193:=Tryz.func71.trans (congrArg some (by kernel_rfl))
 t0:=Tryz.underlying0
 a0:=Tryz.isAgg0
 z0:=Tryz.sizeOf0
 v0:=Tryz.zeroValue0
 t3:=Tryz.underlying3
 a3:=Tryz.isAgg3
 z3:=Tryz.sizeOf3
 v3:=Tryz.zeroValue3
 t4:=Tryz.underlying4
 a4:=Tryz.isAgg4
 z4:=Tryz.sizeOf4
 v4:=Tryz.zeroValue4
 t9:=Tryz.underlying9
 a9:=Tryz.isAgg9
 z9:=Tryz.sizeOf9
 v9:=Tryz.zeroValue9
 t31:=Tryz.underlying45
 a31:=Tryz.isAgg45
 z31:=Tryz.sizeOf45
 v31:=Tryz.zeroValue45 }
open Go.RowKit Go.Lib in
theorem Tryz.slices_Equal_string (b1 o1 n c b2 o2 m d : Nat) (xs ys : List ByteArray) (w : World) (hx : n ≤ xs.length) (hy : m ≤ ys.length) (hbig : n ≤ 9223372036854775807) (hbig2 : m ≤ 9223372036854775807) (hc1 : ∀ j,j < xs.length → w.cell? ⟨b1,o1 + j,none⟩ = some (.string (xs.getD j ByteArray.empty))) (hc2 : ∀ j,j < ys.length → w.cell? ⟨b2,o2 + j,none⟩ = some (.string (ys.getD j ByteArray.empty))) :
  Calls Tryz.prog 71 #[.slice (some ⟨b1,o1,none⟩) n c,.slice (some ⟨b2,o2,none⟩) m d] w fun e w'=>e = .returned (.bool (decide (xs.take n = ys.take m))) ∧ ∃ q,w' = w.drewN q:=Any.slices_Equal_string Tryz.lays193 b1 o1 n c b2 o2 m d xs ys w hx hy hbig hbig2 hc1 hc2
open Go.RowKit Go.Lib in
theorem Tryz.slices_Equal_string_empty (a1 a2 : Option Addr) (c m d : Nat) (w : World) (hbig2 : m ≤ 9223372036854775807) :
  Calls Tryz.prog 71 #[.slice a1 0 c,.slice a2 m d] w fun e w'=>e = .returned (.bool (decide (m = 0))) ∧ w' = w:=Any.slices_Equal_string_empty Tryz.lays193 a1 a2 c m d w hbig2
def Tryz.lays194_ren : Go.Shelf.Ren:=⟨fun | 194=>107 | n=>n,fun | 31=>45 | 9=>9 | 3=>3 | 4=>4 | 0=>0 | n=>n,fun | n=>n⟩
theorem Tryz.lays194 : Go.Proofs.Lays.n194 Tryz.prog Tryz.lays194_ren:={
 mixed:=by kernel_rfl
 f194:=Tryz.func107.trans (congrArg some (by kernel_rfl))
 t0:=Tryz.underlying0
 a0:=Tryz.isAgg0
 z0:=Tryz.sizeOf0
 v0:=Tryz.zeroValue0
 t3:=Tryz.underlying3
 a3:=Tryz.isAgg3
 z3:=Tryz.sizeOf3
 v3:=Tryz.zeroValue3
 t4:=Tryz.underlying4
 a4:=Tryz.isAgg4
 z4:=Tryz.sizeOf4
 v4:=Tryz.zeroValue4
 t9:=Tryz.underlying9
 a9:=Tryz.isAgg9
 z9:=Tryz.sizeOf9
 v9:=Tryz.zeroValue9
 t31:=Tryz.underlying45
 a31:=Tryz.isAgg45
 z31:=Tryz.sizeOf45
 v31:=Tryz.zeroValue45 }
open Go.RowKit Go.Lib Go.Sort in
theorem Tryz.slices_Compact_string (blk off cap : Nat) (zs : List (List UInt8)) (w : World) (hH : Holds encStr w blk off zs.toArray) (hsz : zs.length ≤ 9223372036854775807) (hcap : zs.length ≤ cap) :
  Calls Tryz.prog 107 #[.slice (some ⟨blk,off,none⟩) zs.length cap] w fun e w'=>e = .returned (.slice (some ⟨blk,off,none⟩) (Lib.compact zs).length cap) ∧ ∃ q,w' = putRow encStr (Sort.ahead w q) blk off (Lib.compact zs ++ List.replicate (zs.length - (Lib.compact zs).length) []).toArray:=Any.slices_Compact_string Tryz.lays194 blk off cap zs w hH hsz hcap
open Go.RowKit Go.Lib in
theorem Tryz.slices_Equal_string_lens (a1 a2 : Option Addr) (n c m d : Nat) (w : World) (hnm : n ≠ m) :
  Calls Tryz.prog 71 #[.slice a1 n c,.slice a2 m d] w fun e w'=>e = .returned (.bool false) ∧ w' = w:=Any.slices_Equal_string_lens Tryz.lays193 a1 a2 n c m d w hnm
end Go.Proofs
namespace Go.Proofs.YtpgfldcoojfheaaGreatDoor
open Go.RowKit
open Go.Sort Go.Lib
section
variable {a w : World} {B B' g k : Nat} {A : Option Addr}
structure ShM where
 ms : List HuM
 A : Option Addr
 cap : Nat
def encSh (s : ShM) : Value:=.slice s.A s.ms.length s.cap
structure ShsRd (w : World) (B : Nat) (A : Option Addr) (shs : List ShM) : Prop where
 rd : Rd1 encSh w B A shs
 ok : ∀ s ∈ shs,SlM w B s.A s.cap s.ms
theorem ShsRd.below {W : World} {shs : List ShM} (h : ShsRd w B A shs) (hb : Below B' w W) (hB : B ≤ B') : ShsRd W B A shs:=⟨h.rd.below hb hB,fun s hs=>(h.ok s hs).below hb hB⟩
theorem ShsRd.more {shs : List ShM} (h : ShsRd w B A shs) (hB : B ≤ B') : ShsRd w B' A shs:=⟨h.rd.more hB,fun s hs=>(h.ok s hs).more hB⟩
def nmsOf (s : ShM) : List ByteArray:=(psOf s.ms).map HuP.name
def allNms (shs : List ShM) : List ByteArray:=shs.flatMap nmsOf
def tidyN (l : List ByteArray) : List ByteArray:=(Lib.compact ((l.map fun s=>s.data.toList).mergeSort fun x y=>decide (x ≤ y))).map fun c=>⟨c.toArray⟩
theorem allNms_snoc {shs : List ShM} {s : ShM} (h : shs[k]? = some s) : allNms (shs.take (k + 1)) = allNms (shs.take k) ++ nmsOf s:=by
 unfold allNms;rw [List.take_add_one,h];simp
theorem nms_snoc {ms : List HuM} {m : HuM} (h : ms[k]? = some m) : (psOf (ms.take (k + 1))).map HuP.name = (psOf (ms.take k)).map HuP.name ++ [m.p.name]:=by
 rw [List.take_add_one,h];simp
theorem allNms_le {shs : List ShM} {s : ShM} (h : shs[k]? = some s) (j : Nat) : (allNms (shs.take k)).length + ((psOf (s.ms.take j)).map HuP.name).length ≤ (allNms shs).length:=by
 have h1 : (allNms (shs.take (k + 1))).length ≤ (allNms shs).length:=by
  conv=>rhs; rw [← List.take_append_drop (k + 1) shs]
  unfold allNms;rw [List.flatMap_append,List.length_append];omega
 rw [allNms_snoc h,List.length_append] at h1;have h2 : ((psOf (s.ms.take j)).map HuP.name).length ≤ (nmsOf s).length:=by
  unfold nmsOf;simp only [List.length_map,List.length_take];omega
 omega
section
theorem belowPutS (h : RowKit.Below a.heap.size a w) (hg : a.heap.size ≤ g) (off : Nat) (d : Array (List UInt8)) : RowKit.Below a.heap.size a (putRow encStr w g off d) :=
 h.trans ⟨rfl,rfl,rfl,by simp [putRow,mapBlock],fun k hk=>by
  simp only [putRow,mapBlock,Array.getElem?_modify];rw [if_neg (by omega)]⟩
theorem belowGrow (h : RowKit.Below a.heap.size a w) (os : Array Obj) : RowKit.Below a.heap.size a (grow w os) :=
 h.trans ⟨rfl,rfl,rfl,by simp,fun k hk=>heap_grow_old w os (Nat.lt_of_lt_of_le hk h.size)⟩
theorem belowAhead (h : RowKit.Below a.heap.size a w) (n : Nat) : RowKit.Below a.heap.size a (Go.Sort.ahead w n):=⟨h.os,h.tape,h.output,h.size,h.block⟩
theorem own_holdsS {base : Nat} {e : TypeId} {cap n : Nat} {xs : List ByteArray} (hn : n = xs.length) (h : w.ownsRow base e 1 (.slice (some ⟨g,0,none⟩) n cap) n (xs.map .string)) :
  Holds encStr w g 0 (xs.map fun s=>s.data.toList).toArray:=by
 subst hn;intro j hj;have hj' : j < xs.length:=by simpa using hj
 refine ⟨?_,by rw [Nat.zero_add]; exact h.frozenAt j⟩
 rw [Nat.zero_add,h.cellAt j (by omega),List.getElem?_map,List.getElem?_eq_getElem hj']
 simp [hj',encStr]
theorem holds_rd1 {l : List (List UInt8)} {ext : List (List UInt8)} (h : Holds encStr w g 0 (l ++ ext).toArray) (hg : g < w.heap.size) : Rd1 .string w w.heap.size (some ⟨g,0,none⟩) (l.map fun c=>(⟨c.toArray⟩ : ByteArray)):=by
 intro i x hx;refine ⟨g,0,rfl,hg, ?_⟩;rw [List.getElem?_map] at hx;cases hl : l[i]? with
 | none=>rw [hl] at hx; cases hx
 | some c =>
  rw [hl] at hx;injection hx with hx
  subst hx;obtain ⟨hi,rfl⟩:=List.getElem?_eq_some_iff.1 hl;have h1:=(h i (by simp; omega)).1
  rw [h1,getElem!_pos _ _ (by simp; omega)]
  simp [encStr,List.getElem_append_left hi]
end
theorem compactS_len (zs : List (List UInt8)) : (Lib.compact zs).length ≤ zs.length:=by
 unfold Lib.compact Lib.compactUpTo;rw [List.length_map];have:=List.length_filter_le (Lib.keeps zs.toArray) (List.range zs.length);rw [List.length_range] at this;exact this
theorem names69_all (A : Option Addr) (shs : List ShM) (B cap : Nat) (w : World) (hB : B ≤ w.heap.size) (hm : shs.length ≤ maxLen) (H : ShsRd w B A shs) (h0 : 0 < (allNms shs).length) (h9 : (allNms shs).length ≤ 1000) :
  Calls Tryz.prog 69 #[.slice A shs.length cap] w fun e w'=>∃ g c,e = .returned (.slice (some ⟨g,0,none⟩) (tidyN (allNms shs)).length c) ∧ Rd1 .string w' w'.heap.size (some ⟨g,0,none⟩) (tidyN (allNms shs)) ∧ (tidyN (allNms shs)).length ≤ c ∧ c ≤ maxLen ∧ BW w w' ∧ w.heap.size ≤ g:=by
 unfold maxLen at hm;have HH:=Lq H;have H0:=Lq h0;have H9:=Lq h9;obtain ⟨i9,hi9,hz90,hz91,hz92⟩:=info_parts Tryz.info9;clear H h0 h9;go_enter Tryz.func69,Tryz.ntmps69
 go_wp2_with fail
 go_loopw [2,9] (fun v i wr=>∃ k : Nat,k ≤ shs.length ∧ i = iv k ∧ Hid (wr.ownsRow w.heap.size 9 1 v (allNms (shs.take k)).length ((allNms (shs.take k)).map .string)) ∧ Hid (BW w wr)) (fun _ i _=>shs.length - (intOf i).toNat)
 case atStart=>exact ⟨0,Nat.zero_le _,rfl,Lq (World.ownsRow_nil _ _ _ _),Lq (belowR _)⟩
 case round =>
  obtain ⟨k,hk,rfl,HRW,HBR⟩:=hrel;have hk0 : (0 : Int) ≤ (k : Int):=by omega
  by_cases hlt : k < shs.length
  ·obtain ⟨s,hs⟩ : ∃ x,shs[k]? = some x:=⟨_,List.getElem?_eq_getElem hlt⟩;obtain ⟨b,off,rfl,_,c0⟩:=(HH.out.rd.below HBR.out hB) k s hs;have HSL : Hid (∀ W,BW w W → SlM W B s.A s.cap s.ms):=Lq fun W hb=>(HH.out.ok s (List.mem_iff_getElem?.2 ⟨k,hs⟩)).below hb hB
   have HLE : Hid (∀ j,(allNms (shs.take k)).length + ((psOf (s.ms.take j)).map HuP.name).length ≤ 1000):=Lq fun j=>Nat.le_trans (allNms_le hs j) H9.out
   have HSN:=Lq (allNms_snoc hs);obtain ⟨sms,sA,scap⟩:=s;simp only [encSh] at c0 HSL HLE HSN;obtain ⟨Wa,W2,hWa,hW2,hb2,hqa,hba,hq2⟩:=oneMade wr 109 (.slice none 0 0) (.slice sA sms.length scap);obtain ⟨g4,hg4⟩:=ex wr.heap.size;rw [hg4] at hW2 hqa hq2;have HB2:=Lq hb2;have af:=hqa.frozen 0;have ac:=hqa.c 0;have al:=hqa.lt;have d0:=hq2.c 0;have HRW2:=Lq (own_below HRW.out hb2);clear hs hb2 hqa hba hq2;go_wp2_with fail
   clear c0 af ac al d0 hWa hW2 hg4;go_loopw [2,17] (fun v i wr2=>∃ j : Nat,j ≤ sms.length ∧ i = iv j ∧ Hid (wr2.ownsRow w.heap.size 9 1 v (allNms (shs.take k) ++ (psOf (sms.take j)).map HuP.name).length ((allNms (shs.take k) ++ (psOf (sms.take j)).map HuP.name).map .string)) ∧ Hid (BW w wr2)) (fun _ i _=>sms.length - (intOf i).toNat)
   case atStart=>exact ⟨0,Nat.zero_le _,rfl,Lq (by simpa using HRW2.out),Lq (belowT HBR.out HB2.out)⟩
   case round =>
    obtain ⟨j,hj,rfl,HRJ,HBJ⟩:=hrel;have hj0 : (0 : Int) ≤ (j : Int):=by omega
    by_cases hjl : j < sms.length
    ·obtain ⟨y,hy⟩ : ∃ x,sms[j]? = some x:=⟨_,List.getElem?_eq_getElem hjl⟩;obtain ⟨b2,off2,hA,hbB,hMy,c0,c1,c2,c3,c4,c5,c6⟩:=(HSL.out wr HBJ.out).rd.at hy;have HN1:=Lq (nms_snoc hy);have hle : (allNms (shs.take k)).length + j ≤ 1000:=by
      have h:=HLE.out j
      simpa [Nat.min_eq_left hj] using h
     have HLE2:=Lq hle;obtain ⟨⟨yn,yk,yf,yl,yon,yw,yz⟩,yA,yc⟩:=y;subst hA;simp only at c0 c1 c2 c3 c4 c5 c6;obtain ⟨Wc,W7,hWc,hW7,hb7,hqc,hbc,hq7⟩:=partMade wr yn yk yf yl yw yz yA yc yon.length;obtain ⟨g2,hg2⟩:=ex wr.heap.size;rw [hg2] at hW7 hqc hq7;have HB7:=Lq (belowT HBJ.out hb7);obtain ⟨f0,f1,f2,f3,f4,f5,f6⟩:=hqc.f7;obtain ⟨e0,e1,e2,e3,e4,e5,e6⟩:=hqc.c7;have el:=hqc.lt;have d0:=hq7.c 0;have HAL:=Lq ((own_below HRJ.out hb7).alloc (.cells #[.string yn] 9));clear hMy hy hb7 hqc hbc hq7 hbB;go_wp2_with (at_builtin; refine wpList_append_own _ rfl _ _ 45 rfl w.heap.size 9 i9 (.string ⟨#[]⟩) 1 16 Tryz.underlying45 hi9 hz90 hz91 hz92 rfl (by decide) _ _ _ rfl HAL.out ⟨W7.heap.size,0,none⟩ 1 1 [.string yn] rfl rfl (one_new _ _ _) ?d2 ?d3 ?d4 ?d5 ?_)
     case d2=>simp [Value.oneCell']
     case d3=>unfold maxLen; omega
     case d4=>omega
     case d5=>have:=HB7.out.size; (try simp only [World.size_alloc]); omega
     intro v9 w9 hown9 hg9 _;have hb9 : BW w w9:=grownB HAL.out hg9 (Nat.le_refl _) (belowA HB7.out _);have HB9:=Lq hb9;have HO9:=Lq hown9;clear hown9 hg9 hb9 c0 c1 c2 c3 c4 c5 c6 d0 e0 e1 e2 e3 e4 e5 e6 f0 f1 f2 f3 f4 f5 f6 el hWc hW7 hg2;go_wp2_with fail
     go_roundw
     case measure=>simp [intOf]; omega
     case rel =>
      refine ⟨j + 1,by omega,by go_num,Lq ?_,HB9⟩
      rw [HN1.out,← List.append_assoc]
      simpa [Nat.min_eq_left hj,Nat.add_assoc] using HO9.out
    ·obtain rfl : j = sms.length:=by omega
     go_wp2_with fail
     go_roundw
     case measure=>simp [intOf]; omega
     case rel =>
      refine ⟨k + 1,by omega,by go_num,Lq ?_,HBJ⟩
      have h:=HRJ.out;rw [List.take_of_length_le (Nat.le_refl _)] at h;rw [HSN.out];exact h
  ·obtain rfl : k = shs.length:=by omega
   have hrw:=HRW.out;rw [List.take_of_length_le (Nat.le_refl _)] at hrw;have h0:=H0.out;have h9:=H9.out;obtain ⟨zs,hzs⟩:=ex (allNms shs);obtain ⟨L,hL⟩:=ex (tidyN (allNms shs));rw [hzs] at hrw h0 h9;have HTN:=Lq hL;have HT : Hid (tidyN zs = L):=by rw [hzs] at hL; exact Lq hL
   obtain ⟨g,c,rfl,hgb,hgl,hcc⟩:=own_form hrw (by omega)
   have hcm : c ≤ maxLen:=by
    obtain ⟨A9,c9,h1,_,_,h3⟩:=own_str hrw;injection h1 with _ _ h1
    subst h1;exact h3
   have hH:=own_holdsS rfl hrw;have hsc:=Go.Proofs.Tryz.slices_Sort_string g 0 c (zs.map fun s=>s.data.toList) wr hH hgl (by simp; omega)
   simp only [List.length_map] at hsc;obtain ⟨os,hos⟩:=ex ((zs.map fun s=>s.data.toList).mergeSort fun x y=>decide (x ≤ y))
   have hol : os.length = zs.length:=by rw [← hos,List.length_mergeSort,List.length_map]
   rw [hos] at hsc;have HLL : Hid ((Lib.compact os).map (fun c=>(⟨c.toArray⟩ : ByteArray)) = L):=by rw [← HT.out]; unfold tidyN; rw [hos]; exact Lq rfl
   have HHP:=Lq (fun (n : Nat) (oo : Array Obj)=>Go.Sort.holds_grow Go.Proofs.encStr (Go.Sort.putRow Go.Proofs.encStr (Go.Sort.ahead wr n) g 0 os.toArray) oo g 0 os.toArray (by simpa using hgl) (Go.Sort.holds_putRow Go.Proofs.encStr (Go.Sort.ahead wr n) g 0 (zs.map fun s=>s.data.toList).toArray os.toArray (Go.Sort.holds_ahead _ _ _ _ _ _ hH) (by simp; omega)))
   have HBP:=Lq (fun (n : Nat) (oo : Array Obj)=>belowGrow (belowPutS (g:=g) (belowAhead HBR.out n) hgb 0 os.toArray) oo)
   have HSC:=Lq hsc;have HOL:=Lq hol;have HHG:=Lq (fun (n : Nat) (oo : Array Obj)=>(show g < (Go.Sort.grow (Go.Sort.putRow Go.Proofs.encStr (Go.Sort.ahead wr n) g 0 os.toArray) oo).heap.size from Nat.lt_of_lt_of_le hgl (by simp [Go.Sort.putRow,Go.Sort.mapBlock])))
   clear hsc hol hos hH hrw hL hzs;go_wp2_with fail
   refine HSC.out.mono ?_;rintro e w5 ⟨rfl,nn,oss,rfl⟩;have hH5:=HHP.out nn oss;have hb5:=HBP.out nn oss;have hg5:=HHG.out nn oss;obtain ⟨w5,hw5⟩:=ex (Go.Sort.grow (Go.Sort.putRow Go.Proofs.encStr (Go.Sort.ahead wr nn) g 0 os.toArray) oss);rw [hw5] at hH5 hb5 hg5 ⊢;rw [← HOL.out];have hcc2:=Go.Proofs.Tryz.slices_Compact_string g 0 c os w5 hH5 (by rw [HOL.out]; omega) (by rw [HOL.out]; omega)
   have hcl : (Lib.compact os).length = L.length:=by rw [← HLL.out,List.length_map]
   have hcle : (Lib.compact os).length ≤ os.length:=compactS_len os;have HC2:=Lq hcc2;have HH6:=Lq (fun q=>Go.Sort.holds_putRow Go.Proofs.encStr (Go.Sort.ahead w5 q) g 0 os.toArray (Lib.compact os ++ List.replicate (os.length - (Lib.compact os).length) []).toArray (Go.Sort.holds_ahead _ _ _ _ _ _ hH5) (by simp; omega))
   have HB6:=Lq (fun q=>belowPutS (g:=g) (belowAhead hb5 q) hgb 0 (Lib.compact os ++ List.replicate (os.length - (Lib.compact os).length) []).toArray)
   have HG6:=Lq (fun q=>(show g < (Go.Sort.putRow Go.Proofs.encStr (Go.Sort.ahead w5 q) g 0 (Lib.compact os ++ List.replicate (os.length - (Lib.compact os).length) []).toArray).heap.size from Nat.lt_of_lt_of_le hg5 (by simp [Go.Sort.putRow,Go.Sort.mapBlock])))
   have HCL : Hid (L.length ≤ c):=Lq (by rw [← hcl]; have:=HOL.out; omega)
   have hLe : (Lib.compact os).length = L.length:=hcl;have HLE2:=Lq hLe;clear hH5 hb5 hcc2 hw5 HSC HHP HBP hcl hcle hg5 hLe;go_wp2_with fail
   refine HC2.out.mono ?_;rintro e w6 ⟨rfl,q,rfl⟩;go_wp2_with fail
   go_ret
   rw [HTN.out];refine ⟨g,c, ?_, ?_,HCL.out,hcm,HB6.out q,hgb⟩
   ·show Ending.returned (.slice (some ⟨g,0,none⟩) (Lib.compact os).length c) = _
    rw [HLE2.out]
   rw [← HLL.out];exact holds_rd1 (HH6.out q) (HG6.out q)
theorem names69_any (A : Option Addr) (shs : List ShM) (B cap : Nat) (w : World) (hB : B ≤ w.heap.size) (hm : shs.length ≤ maxLen) (H : ShsRd w B A shs) (h0 : 0 < (allNms shs).length) (h9 : (allNms shs).length ≤ 1000) :
  Calls Tryz.prog 69 #[.slice A shs.length cap] w fun e w'=>∃ g c,e = .returned (.slice (some ⟨g,0,none⟩) (tidyN (allNms shs)).length c) ∧ Rd1 .string w' w'.heap.size (some ⟨g,0,none⟩) (tidyN (allNms shs)) ∧ (tidyN (allNms shs)).length ≤ c ∧ c ≤ maxLen ∧ BW w w' :=
 (names69_all A shs B cap w hB hm H h0 h9).mono fun _ _ ⟨g,c,h1,h2,h3,h4,h5,_⟩=>⟨g,c,h1,h2,h3,h4,h5⟩
end
end Go.Proofs.YtpgfldcoojfheaaGreatDoor
