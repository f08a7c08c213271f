/- hull: build, the words of its two blocks. hull: build (printed by mkHB2.py). -/
import Derived.Laws.EntriesVeiled
import Derived.Test.YtpgfldcoojfheaaGreatDoorM0
import Derived.Test.YtpgfldcoojfheaaGreatDoorM4
import Derived.Test.YtpgfldcoojfheaaGreatDoorM6
set_option maxRecDepth 1000000
set_option maxHeartbeats 16000000
namespace Go.Proofs.YtpgfldcoojfheaaGreatDoor
open Go.RowKit
section
variable {c cap gn gs k n : Nat} {cs : List HcM} {l ms now : List HuM} {w : World} {day last r : Int} {A X : Option Addr}
structure Two (gs gn : Nat) (w W : World) : Prop where
 os : W.os = w.os
 tape : W.tape = w.tape
 output : W.output = w.output
 size : w.heap.size ≤ W.heap.size
 block : ∀ k,k < w.heap.size → k ≠ gs → k ≠ gn → W.heap[k]? = w.heap[k]?
section
variable {gs gn : Nat} {w W X : World}
theorem Two.trans (h : Two gs gn w W) (h' : Two gs gn W X) : Two gs gn w X :=
 ⟨h'.os.trans h.os,h'.tape.trans h.tape,h'.output.trans h.output,Nat.le_trans h.size h'.size,fun k hk a b=>(h'.block k (Nat.lt_of_lt_of_le hk h.size) a b).trans (h.block k hk a b)⟩
theorem Two.of_below (h : BW w W) : Two gs gn w W:=⟨h.os,h.tape,h.output,h.size,fun k hk _ _=>h.block k hk⟩
theorem Two.of_only (h : OnlyAt w W gs) : Two gs gn w W:=⟨h.os,h.tape,h.output,h.size,fun k hk a _=>h.block k hk a⟩
theorem Two.of_only2 (h : OnlyAt w W gn) : Two gs gn w W:=⟨h.os,h.tape,h.output,h.size,fun k hk _ b=>h.block k hk b⟩
theorem Two.below {a : World} (h : Two gs gn w W) (hb : BW a w) (h1 : a.heap.size ≤ gs) (h2 : a.heap.size ≤ gn) : BW a W :=
 ⟨h.os.trans hb.os,h.tape.trans hb.tape,h.output.trans hb.output,Nat.le_trans hb.size h.size,fun k hk=>(h.block k (Nat.lt_of_lt_of_le hk hb.size) (by omega) (by omega)).trans (hb.block k hk)⟩
theorem Two.blk {g : Nat} {t : TypeId} {cs : Array Value} (h : Two gs gn w W) (hb : Blk w g t cs) (h1 : g ≠ gs) (h2 : g ≠ gn) : Blk W g t cs:=hb.same (h.block g hb.lt h1 h2)
end
def Hold (gs gn : Nat) (w : World) (A : Option Addr) (cap : Nat) (ms : List HuM) : Prop:=∀ W,Two gs gn w W → SlM W W.heap.size A cap ms
theorem Hold.on {W : World} (h : Hold gs gn w A cap ms) (ho : Two gs gn w W) : Hold gs gn W A cap ms:=fun X hx=>h X (ho.trans hx)
theorem Hold.keeps (h : Hold gs gn w A cap ms) : Keeps w gs A cap ms:=fun X hx=>h X (Two.of_only hx)
theorem Hold.sl (h : Hold gs gn w A cap ms) : SlM w w.heap.size A cap ms:=h w (Two.of_below (belowR w))
theorem str_ne {b o : Nat} {t : TypeId} {s : ByteArray} (hb : Blk w gn t #[.slice X n c]) (hc : w.cell? ⟨b,o,none⟩ = some (.string s)) : b ≠ gn:=by
 intro e;subst e;rw [hb.cell o] at hc;rcases Nat.eq_zero_or_pos o with rfl | h0
 ·injection hc with hc; cases hc
 ·rw [Array.getElem?_eq_none (by show 1 ≤ o; omega)] at hc; cases hc
theorem Hold.of_keeps {t : TypeId} (h : Keeps w gs A cap ms) (hb : Blk w gn t #[.slice X n c]) (hne : gn ≠ gs) : Hold gs gn w A cap ms:=by
 intro W hW;obtain ⟨Y,hY⟩:=ex ({ W with heap:=W.heap.setIfInBounds gn (.cells #[.slice X n c] t (0,0)) } : World)
 have hl : gn < W.heap.size:=Nat.lt_of_lt_of_le hb.lt hW.size;have hg : ∀ k,k ≠ gn → Y.heap[k]? = W.heap[k]?:=by
  intro k hk;rw [← hY];exact Array.getElem?_setIfInBounds_ne (fun e=>hk e.symm)
 have hbY : Blk Y gn t #[.slice X n c]:=by
  unfold Blk;rw [← hY];exact Array.getElem?_setIfInBounds_self_of_lt hl
 have hsz : Y.heap.size = W.heap.size:=by rw [← hY]; exact Array.size_setIfInBounds
 have ho : OnlyAt w Y gs:=⟨by rw [← hY]; exact hW.os,by rw [← hY]; exact hW.tape,by rw [← hY]; exact hW.output,by rw [hsz]; exact hW.size,fun k hk a=>by
  by_cases e : k = gn
  ·subst e;rw [show Y.heap[k]? = _ from hbY,show w.heap[k]? = _ from hb]
  ·rw [hg k e];exact hW.block k hk a e⟩
 have hs:=h Y ho;have hcell : ∀ (b o : Nat) v,b ≠ gn → Y.cell? ⟨b,o,none⟩ = some v → W.cell? ⟨b,o,none⟩ = some v:=fun b o v hn hc=>(World.cell?_of_block (w:=Y) (a:=⟨b,o,none⟩) (hg b hn).symm).trans hc
 refine ⟨⟨fun i x hx=>?_,fun m hm=>?_⟩,hs.le,hs.max,hs.nil0,fun a ha=>hsz ▸ hs.off a ha⟩
 ·obtain ⟨b,off,e,hlt,hc⟩:=hs.rd.rd i x hx;have hn : b ≠ gn:=str_ne hbY (hc 0 (.string x.p.name) rfl);exact ⟨b,off,e,hsz ▸ hlt,fun j u hu=>hcell _ _ _ hn (hc j u hu)⟩
 ·have hm2:=hs.rd.ok m hm;refine ⟨fun i x hx=>?_,hm2.le,hm2.cm,hm2.nm,hm2.ons,hm2.sz⟩
  obtain ⟨b,off,e,hlt,hc⟩:=hm2.on i x hx;exact ⟨b,off,e,hsz ▸ hlt,hcell _ _ _ (str_ne hbY hc) hc⟩
def BuildPost (ms : List HuM) (cs : List HcM) (day : Int) (w : World) (e : Ending) (w' : World) : Prop:=∃ (p i r : Int) (A : Option Addr) (n c : Nat),e = .returned (.tuple #[.agg #[.slice A n c],iv p,iv i,iv r]) ∧ BW w w' ∧ (r = 0 ↔ PlanOk (psOf ms) (csOf cs)) ∧ (r = 0 → ∃ out : List HuM,n = out.length ∧ psOf out = shipOn day (psOf ms) (csOf cs) ∧ SlM w' w'.heap.size A c out)
def RunOn (day : Int) (ms : List HuM) (cs : List HcM) (k : Nat) (l : List HuM) (last : Int) (now : List HuM) : Prop:=ShipOk (psOf l) ∧ runC day (psOf ms) ((csOf cs).take k) = some (psOf l,last,psOf now)
theorem RunOn.start (h : ShipOk (psOf ms)) : RunOn day ms cs 0 ms 0 ms:=⟨h,rfl⟩
theorem RunOn.next {l' : List HuM} {c : HcM} (h : RunOn day ms cs k l last now) (hc : cs[k]? = some c) (hd : inB last 40000 c.day = true) (hg : chgP (psOf l) c.c = some (psOf l')) : RunOn day ms cs (k + 1) l' c.day (if c.day ≤ day then l' else now):=by
 obtain ⟨h1,h2⟩:=h;refine ⟨chg_ok h1 hg, ?_⟩;rw [runC_snoc (cs_at hc),h2];unfold stepC;simp only;rw [if_pos (show inB last 40000 c.c.day = true from hd),hg]
 by_cases hd : c.day ≤ day
 ·simp [HcM.c,hd]
 ·simp [HcM.c,hd]
theorem RunOn.stop {c : HcM} (h : RunOn day ms cs k l last now) (hc : cs[k]? = some c) (hn : inB last 40000 c.day = false ∨ chgP (psOf l) c.c = none) : ¬ PlanOk (psOf ms) (csOf cs):=by
 intro hp;obtain ⟨h1,h2⟩:=h;have h3 : runC day (psOf ms) ((csOf cs).take (k + 1)) = none:=by
  rw [runC_snoc (cs_at hc),h2];unfold stepC;simp only;rcases hn with hn | hn
  ·rw [if_neg (show ¬ inB last 40000 c.c.day = true by show ¬ inB last 40000 c.day = true; rw [hn]; simp)]
  ·rw [hn];split <;> rfl
 have:=hp.run;rw [runC_some 0 day,runC_stuck h3] at this;cases this
theorem RunOn.done (h : RunOn day ms cs cs.length l last now) (hs : ShipOk (psOf ms)) (hl : cs.length ≤ 8) : PlanOk (psOf ms) (csOf cs) ∧ psOf now = shipOn day (psOf ms) (csOf cs):=by
 obtain ⟨_,h2⟩:=h;rw [List.take_of_length_le (by simp)] at h2
 refine ⟨⟨hs,by simpa using hl,by rw [runC_some 0 day,h2]; rfl⟩, ?_⟩
 unfold shipOn;rw [h2]
theorem shipOk_of (h12 : ms.length ≤ 12) (h : ∀ j m,j < ms.length → ms[j]? = some m → PartOk m.p ((psOf ms).take j) ((psOf ms).take j)) : ShipOk (psOf ms):=⟨by simpa using h12,fun i p hp=>by
 rw [List.getElem?_map] at hp;cases hm : ms[i]? with
 | none=>rw [hm] at hp; cases hp
 | some m =>
  rw [hm] at hp;injection hp with hp
  subst hp;exact h i m (List.getElem?_eq_some_iff.1 hm).1 hm⟩
def Cd (ms : List HuM) (cs : List HcM) (r : Int) : Prop:=∀ c,cs = [c] → ShipOk (psOf ms) → c.what = 2 → c.day = 0 → bareP c.part.p = true → hasP (psOf ms) c.name = true → r = 9
theorem cd_one {x c : HcM} (hc : cs[k]? = some x) (e : cs = [c]) : k = 0 ∧ x = c:=by
 subst e
 match k,hc with
 | 0,hc=>injection hc with hc; exact ⟨rfl,hc.symm⟩
theorem cd_what {x : HcM} (hc : cs[k]? = some x) (h : x.what ≠ 2) : Cd ms cs r:=fun _ e _ h2 _ _ _=>absurd ((cd_one hc e).2 ▸ h2) h
theorem cd_bare {x : HcM} (hc : cs[k]? = some x) (h : bareB x.c = false) (h2 : x.what = 2) : Cd ms cs r:=fun c e _ _ _ hb _=>by
 obtain ⟨_,rfl⟩:=cd_one hc e;have : bareB x.c = bareP x.part.p:=by unfold bareB; simp [HcM.c,h2]
 rw [this,hb] at h;cases h
theorem cd_run (h : RunOn day ms cs 0 l last now) : last = 0 ∧ psOf l = psOf ms:=by
 have h2:=h.2;simp only [List.take_zero] at h2;injection h2 with h2
 injection h2 with h3 h4
 injection h4 with h4 h5
 exact ⟨h4.symm,h3.symm⟩
theorem cd_day {x : HcM} (h : RunOn day ms cs k l last now) (hc : cs[k]? = some x) (hd : inB last 40000 x.day = false) : Cd ms cs r:=fun c e _ _ h0 _ _=>by
 obtain ⟨rfl,rfl⟩:=cd_one hc e;rw [(cd_run h).1,h0] at hd;cases hd
theorem cd_take {x : HcM} (h : RunOn day ms cs k l last now) (hc : cs[k]? = some x) (h9 : x.what = 2 → hasP (psOf l) x.name = true → r = 9) : Cd ms cs r:=fun c e _ h2 _ _ hh=>by
 obtain ⟨rfl,rfl⟩:=cd_one hc e;exact h9 h2 (by rw [(cd_run h).2]; exact hh)
end
section
variable {b : Nat} {w : World}
theorem partMade (wr : World) (yn : ByteArray) (yk yf yl yw yz : Int) (yA : Option Addr) (yc n : Nat) : ∃ Wa W2,wr.alloc (.cells #[.string ⟨#[]⟩,.int .i64 0,.int .i64 0,.int .i64 0,.slice none 0 0,.int .i64 0,.int .i64 0] 47) = Wa ∧ (((((((Wa.setCell ⟨wr.heap.size,0,none⟩ (.string yn)).setCell ⟨wr.heap.size,1,none⟩ (iv yk)).setCell ⟨wr.heap.size,2,none⟩ (iv yf)).setCell ⟨wr.heap.size,3,none⟩ (iv yl)).setCell ⟨wr.heap.size,4,none⟩ (.slice yA n yc)).setCell ⟨wr.heap.size,5,none⟩ (iv yw)).setCell ⟨wr.heap.size,6,none⟩ (iv yz)) = W2 ∧ BW wr W2 ∧ Blk Wa wr.heap.size 47 #[.string ⟨#[]⟩,.int .i64 0,.int .i64 0,.int .i64 0,.slice none 0 0,.int .i64 0,.int .i64 0] ∧ BW wr Wa ∧ Blk W2 wr.heap.size 47 #[.string yn,iv yk,iv yf,iv yl,.slice yA n yc,iv yw,iv yz]:=by
 refine ⟨_,_,rfl,rfl, ?_,Blk.new wr 47 _,belowA (belowR _) _, ?_⟩
 ·exact ((((((((OnlyAt.of_below (belowR _) wr.heap.size).set 0 _).set 1 _).set 2 _).set 3 _).set 4 _).set 5 _).set 6 _).below (belowA (belowR _) _) (Nat.le_refl _)
 ·exact seven _ _ _ _ _ _ _ (Blk.new wr 47 _)
theorem ten {g : Nat} {t : TypeId} {a0 a1 a2 a3 a4 a5 a6 a7 a8 a9 : Value} (b0 b1 b2 b3 b4 b5 b6 b7 b8 b9 : Value) (h : Blk w g t #[a0,a1,a2,a3,a4,a5,a6,a7,a8,a9]) : Blk ((((((((((w.setCell ⟨g,0,none⟩ (b0)).setCell ⟨g,1,none⟩ (b1)).setCell ⟨g,2,none⟩ (b2)).setCell ⟨g,3,none⟩ (b3)).setCell ⟨g,4,none⟩ (b4)).setCell ⟨g,5,none⟩ (b5)).setCell ⟨g,6,none⟩ (b6)).setCell ⟨g,7,none⟩ (b7)).setCell ⟨g,8,none⟩ (b8)).setCell ⟨g,9,none⟩ (b9)) g t #[b0,b1,b2,b3,b4,b5,b6,b7,b8,b9]:=by
 have h:=(((((((((h.set_ 0 b0).set_ 1 b1).set_ 2 b2).set_ 3 b3).set_ 4 b4).set_ 5 b5).set_ 6 b6).set_ 7 b7).set_ 8 b8).set_ 9 b9
 simpa using h
theorem chgMade (wr : World) (t : TypeId) (wh dy : Int) (nm yn : ByteArray) (yk yf yl yw yz : Int) (yA : Option Addr) (yc n : Nat) : ∃ Wa W2,wr.alloc (.cells #[.int .i64 0,.int .i64 0,.string ⟨#[]⟩,.string ⟨#[]⟩,.int .i64 0,.int .i64 0,.int .i64 0,.slice none 0 0,.int .i64 0,.int .i64 0] t) = Wa ∧ ((((((((((Wa.setCell ⟨wr.heap.size,0,none⟩ (iv wh)).setCell ⟨wr.heap.size,1,none⟩ (iv dy)).setCell ⟨wr.heap.size,2,none⟩ (.string nm)).setCell ⟨wr.heap.size,3,none⟩ (.string yn)).setCell ⟨wr.heap.size,4,none⟩ (iv yk)).setCell ⟨wr.heap.size,5,none⟩ (iv yf)).setCell ⟨wr.heap.size,6,none⟩ (iv yl)).setCell ⟨wr.heap.size,7,none⟩ (.slice yA n yc)).setCell ⟨wr.heap.size,8,none⟩ (iv yw)).setCell ⟨wr.heap.size,9,none⟩ (iv yz)) = W2 ∧ BW wr W2 ∧ Blk Wa wr.heap.size t #[.int .i64 0,.int .i64 0,.string ⟨#[]⟩,.string ⟨#[]⟩,.int .i64 0,.int .i64 0,.int .i64 0,.slice none 0 0,.int .i64 0,.int .i64 0] ∧ BW wr Wa ∧ Blk W2 wr.heap.size t #[iv wh,iv dy,.string nm,.string yn,iv yk,iv yf,iv yl,.slice yA n yc,iv yw,iv yz]:=by
 refine ⟨_,_,rfl,rfl, ?_,Blk.new wr t _,belowA (belowR _) _, ?_⟩
 ·exact (((((((((((OnlyAt.of_below (belowR _) wr.heap.size).set 0 _).set 1 _).set 2 _).set 3 _).set 4 _).set 5 _).set 6 _).set 7 _).set 8 _).set 9 _).below (belowA (belowR _) _) (Nat.le_refl _)
 ·exact ten _ _ _ _ _ _ _ _ _ _ (Blk.new wr t _)
theorem twoMade (wr : World) (t : TypeId) (a0 a1 b0 b1 : Value) : ∃ Wa W2,wr.alloc (.cells #[a0,a1] t) = Wa ∧ ((Wa.setCell ⟨wr.heap.size,0,none⟩ b0).setCell ⟨wr.heap.size,1,none⟩ b1) = W2 ∧ BW wr W2 ∧ Blk Wa wr.heap.size t #[a0,a1] ∧ BW wr Wa ∧ Blk W2 wr.heap.size t #[b0,b1]:=by
 refine ⟨_,_,rfl,rfl, ?_,Blk.new wr t _,belowA (belowR _) _, ?_⟩
 ·exact (((OnlyAt.of_below (belowR _) wr.heap.size).set 0 _).set 1 _).below (belowA (belowR _) _) (Nat.le_refl _)
 ·have h:=((Blk.new wr t #[a0,a1]).set_ 0 b0).set_ 1 b1
  simpa using h
theorem VerbsAt.same {W : World} (h : VerbsAt w b) (hb : W.heap[b]? = w.heap[b]?) : VerbsAt W b:=by
 obtain ⟨es,clock,h1,h2⟩:=h;exact ⟨es,clock,hb.trans h1,h2⟩
theorem VerbsAt.lt (h : VerbsAt w b) : b < w.heap.size:=World.ownsMap.lt h
def BuildPost2 (A0 : Option Addr) (cap0 : Nat) (ms : List HuM) (cs : List HcM) (day : Int) (w : World) (e : Ending) (w' : World) : Prop:=∃ (p i r : Int) (A : Option Addr) (n c : Nat),e = .returned (.tuple #[.agg #[.slice A n c],iv p,iv i,iv r]) ∧ BW w w' ∧ (r = 0 ↔ PlanOk (psOf ms) (csOf cs)) ∧ (r = 0 → ∃ out : List HuM,n = out.length ∧ psOf out = shipOn day (psOf ms) (csOf cs) ∧ SlM w' w'.heap.size A c out) ∧ (r = 0 → cs.length = 0 → A = A0 ∧ n = ms.length ∧ c = cap0) ∧ (r ≠ 0 → Cd ms cs r)
theorem buildNo {A0 : Option Addr} {cap0 : Nat} {ms : List HuM} {cs : List HcM} {day : Int} {w' : World} {p i r : Int} {A : Option Addr} {n c : Nat} (h0 : r ≠ 0) (hP : ¬ PlanOk (psOf ms) (csOf cs)) (hC : Cd ms cs r) (hb : BW w w') : BuildPost2 A0 cap0 ms cs day w (.returned (.tuple #[.agg #[.slice A n c],iv p,iv i,iv r])) w':=⟨p,i,r,A,n,c,rfl,hb,⟨fun h=>absurd h h0,fun h=>absurd h hP⟩,fun h=>absurd h h0,fun h=>absurd h h0,fun _=>hC⟩
theorem chgP_none {l : List HuP} {c : HuC} (h1 : c.what ≠ 1) (h2 : c.what ≠ 2) (h3 : c.what ≠ 3) : chgP l c = none:=by
 unfold chgP;rw [if_neg h1,if_neg h2,if_neg h3]
theorem chgP_bare {l : List HuP} {c : HuC} (h : bareB c = false) : chgP l c = none:=by
 cases hc : chgP l c with
 | none=>rfl
 | some x=>rw [bare_of_chg hc] at h; cases h
theorem build94_all (A C : Option Addr) (ms : List HuM) (cs : List HcM) (B cap capc : Nat) (day : Int) (w : World) (hB : B ≤ w.heap.size) (H : SlM w B A cap ms) (HC : SlC w B C capc cs) (HW : ∀ c ∈ cs,Lit.wf (.int .i64 c.what) = true) :
  Calls Tryz.prog 94 #[.agg #[.slice A ms.length cap,.slice C cs.length capc],iv day] w (BuildPost2 A cap ms cs day w):=by
 obtain ⟨W1,hW1⟩:=ex (w.alloc (.cells #[.slice A ms.length cap,.slice C cs.length capc] 27));obtain ⟨W2,hW2⟩:=ex (W1.alloc (.cells #[.slice none 0 0] 109));obtain ⟨W3,hW3⟩:=ex (W2.alloc (.cells #[.slice none 0 0] 109));obtain ⟨gp,hgp⟩:=ex w.heap.size;obtain ⟨gn,hgn⟩:=ex W1.heap.size;obtain ⟨gs,hgs⟩:=ex W2.heap.size;obtain ⟨W4,hW4⟩:=ex (W3.setCell ⟨gs,0,none⟩ (.slice A ms.length cap));have z1 : W1.heap.size = w.heap.size + 1:=by rw [← hW1]; simp
 have z2 : W2.heap.size = W1.heap.size + 1:=by rw [← hW2]; simp
 have b1 : BW w W1:=by rw [← hW1]; exact belowA (belowR w) _
 have b2 : BW W1 W2:=by rw [← hW2]; exact belowA (belowR _) _
 have b3 : BW W2 W3:=by rw [← hW3]; exact belowA (belowR _) _
 have q1 : Blk W1 gp 27 #[.slice A ms.length cap,.slice C cs.length capc]:=by rw [← hW1,← hgp]; exact Blk.new w 27 _
 have q2 : Blk W2 gn 109 #[.slice none 0 0]:=by rw [← hW2,← hgn]; exact Blk.new W1 109 _
 have q3 : Blk W3 gs 109 #[.slice none 0 0]:=by rw [← hW3,← hgs]; exact Blk.new W2 109 _
 have q2p:=q1.keep b2;have q3p:=q2p.keep b3;have q3n:=q2.keep b3;have o4 : OnlyAt W3 W4 gs:=by rw [← hW4]; exact OnlyAt.of_set (belowR W3) gs 0 _
 have q4 : Blk W4 gs 109 #[.slice A ms.length cap]:=by
  rw [← hW4];have h:=q3.set_ 0 (.slice A ms.length cap)
  simpa using h
 have q4p:=q3p.same (o4.block gp q3p.lt (by omega))
 have q4n:=q3n.same (o4.block gn q3n.lt (by omega))
 have b4 : BW w W4:=o4.below (belowT (belowT b1 b2) b3) (by omega)
 have HGP : Hid (w.heap.size ≤ gp ∧ gp < gn ∧ gn < gs):=Lq (by omega)
 have HGN : Hid (w.heap.size ≤ gn):=Lq (by omega)
 have hBW : B ≤ W4.heap.size:=Nat.le_trans hB b4.size;have HH:=Lq (H.below b4 hB);have HH0:=Lq H;have HCC:=Lq HC;have HB4:=Lq b4;have HQS:=Lq q4;have HQP:=Lq q4p;have HQN:=Lq q4n;have HWF:=Lq HW;have hle:=H.le;have hmax:=H.max;have hm9 : ms.length ≤ 9223372036854775807:=by have:=H.le; have:=H.max; simp only [maxLen] at this; omega
 have hc9 : cs.length ≤ 9223372036854775807:=by have:=HC.le; have:=HC.max; simp only [maxLen] at this; omega
 have a0:=q2p.c 0;have a1:=q3.c 0;have a2:=q3.frozen 0;have a3:=q3.lt;have x0:=q4p.c 0;have x1:=q4p.c 1;have s0:=q4.c 0;have n0:=q4n.c 0;have nf:=q4n.frozen 0;have nl:=q4n.lt;clear H HC HW b1 b2 b3 q1 q2 q3 q2p q3p q3n o4 q4 q4p q4n b4 z1 z2;go_enter Tryz.func94,Tryz.ntmps94
 by_cases h12 : 12 < ms.length
 ·have h12b : (ms.length : Int) > 12:=by omega
  obtain ⟨W9,hW9⟩:=ex (W4.setCell ⟨gn,0,none⟩ (.slice none 0 0));have d0 : W9.cell? ⟨gn,0,none⟩ = some (.slice none 0 0):=by rw [← hW9]; exact ((HQN.out).set_ 0 _).cell 0
  have HB9 : Hid (BW w W9):=by rw [← hW9]; exact Lq ((OnlyAt.of_set (belowR W4) gn 0 _).below (HB4.out) HGN.out)
  have n0:=(HQN.out).c 0;have nf:=(HQN.out).frozen 0;have nl:=(HQN.out).lt;go_wp2_with fail
  exact bodyPost_ret (v:=.tuple #[.agg #[.slice none 0 0],iv 1,iv 0,iv 3]) (by simp [results,Tryz.results94,go_sem,d0]) rfl (buildNo (by decide) (fun h=>by have:=h.ship.len; simp at this; omega) (fun _ _ h _ _ _ _=>by have:=h.len; simp at this; omega) HB9.out)
 ·go_wp2_with fail
  clear hW1 hW2 hW3 hW4 a0 a1 a2 a3 hgp hgn hgs;go_loopw [30] (fun i wr=>∃ k : Nat,k ≤ ms.length ∧ i = iv k ∧ Hid (∀ j m,j < k → ms[j]? = some m → PartOk m.p ((psOf ms).take j) ((psOf ms).take j)) ∧ Hid (BW W4 wr)) (fun i _=>ms.length - (intOf i).toNat)
  case atStart=>exact ⟨0,by omega,rfl,Lq (fun j m h=>by omega),Lq (belowR _)⟩
  case round =>
   clear x0 x1 s0 n0 nf nl;obtain ⟨k,hk,rfl,HP,HBR⟩:=hrel;have hk0 : (0 : Int) ≤ (k : Int):=by omega
   by_cases hlt : k < ms.length
   ·obtain ⟨y,hy⟩ : ∃ x,ms[k]? = some x:=⟨_,List.getElem?_eq_getElem hlt⟩;obtain ⟨b,off,hA,hbB,hMy,c0,c1,c2,c3,c4,c5,c6⟩:=(HH.out.rd.below HBR.out hBW).at hy;have HYI:=Lq hy;have HCK : Hid (∀ W,BW wr W → Calls Tryz.prog 126 #[.pointer (some ⟨gs,0,none⟩),mV y,iv k,.slice none 0 0] W (ErrIff (PartOk y.p ((psOf ms).take k) ((psOf ms).take k)) W)):=Lq fun W hb=>by
     have hb2:=belowT HBR.out hb;have h:=check126_any A none ms [] y W.heap.size cap 0 gs k W (Nat.le_refl _) ((HH.out.rd.below hb2 hBW).more (Nat.le_trans hBW hb2.size)) MsRd.nil ((hMy.below hb (Nat.le_trans hBW HBR.out.size)).more (Nat.le_trans hBW hb2.size)) hle hmax (Nat.zero_le _) hk ((HQS.out.keep hb2).c 0);rw [show psOf [] = [] from rfl,List.append_nil] at h
     exact h
    obtain ⟨⟨yn,yk,yf,yl,yon,yw,yz⟩,yA,yc⟩:=y;subst hA;simp only at c0 c1 c2 c3 c4 c5 c6 HCK;obtain ⟨Wa,W5,hWa,hW5,hb5,hqa,hba,hq5⟩:=partMade wr yn yk yf yl yw yz yA yc yon.length;obtain ⟨g2,hg2⟩:=ex wr.heap.size;rw [hg2] at hW5 hqa hq5;have HB5:=Lq hb5;have HQ5:=Lq hq5;obtain ⟨f0,f1,f2,f3,f4,f5,f6⟩:=hqa.f7;obtain ⟨e0,e1,e2,e3,e4,e5,e6⟩:=hqa.c7;have el:=hqa.lt;obtain ⟨d0,d1,d2,d3,d4,d5,d6⟩:=hq5.c7;clear hMy hy hb5 hqa hba hq5;go_wp2_with fail
    refine (HCK.out _ HB5.out).mono ?_;rintro e w6 ⟨r,rfl,hr,hb6⟩;have HB6:=Lq (belowT HBR.out (belowT HB5.out hb6));have HR:=Lq hr;clear hb6 hr c0 c1 c2 c3 c4 c5 c6 d0 d1 d2 d3 d4 d5 d6 e0 e1 e2 e3 e4 e5 e6 f0 f1 f2 f3 f4 f5 f6 el hWa hW5 hg2;by_cases hr0 : r = 0
    ·subst hr0;have HR0:=Lq (HR.out.1 rfl);clear HR;go_wp2_with fail
     go_roundw
     case rel =>
      refine ⟨k + 1,by omega,by go_num,Lq (fun j m hj hm=>?_),HB6⟩
      rcases Nat.lt_or_ge j k with hjk | hjk
      ·exact HP.out j m hjk hm
      ·obtain rfl : j = k:=by omega
       rw [HYI.out] at hm;injection hm with hm
       subst hm;exact HR0.out
     case measure=>simp [intOf]; omega
    ·have hr1 : (r != 0) = true:=by simpa using hr0
     obtain ⟨W9,hW9⟩:=ex (w6.setCell ⟨gn,0,none⟩ (.slice none 0 0));have d0 : W9.cell? ⟨gn,0,none⟩ = some (.slice none 0 0):=by rw [← hW9]; exact ((HQN.out.keep HB6.out).set_ 0 _).cell 0
     have HB9 : Hid (BW w W9):=by rw [← hW9]; exact Lq ((OnlyAt.of_set (belowR w6) gn 0 _).below (belowT HB4.out HB6.out) HGN.out)
     have n0:=(HQN.out.keep HB6.out).c 0;have nf:=(HQN.out.keep HB6.out).frozen 0;have nl:=(HQN.out.keep HB6.out).lt;go_wp2_with fail
     exact bodyPost_ret (v:=.tuple #[.agg #[.slice none 0 0],iv 1,iv k,iv r]) (by simp [results,Tryz.results94,go_sem,d0]) rfl (buildNo hr0 (fun h=>hr0 (HR.out.2 (h.ship.part k _ (ps_at HYI.out)))) (fun _ _ h _ _ _ _=>absurd (HR.out.2 (h.part k _ (ps_at HYI.out))) hr0) HB9.out)
   ·have HSH:=Lq (shipOk_of (Nat.le_of_not_lt h12) (fun j m hj hm=>HP.out j m (by omega) hm))
    clear HP;have x0:=(HQP.out.keep HBR.out).c 0;have x1:=(HQP.out.keep HBR.out).c 1;by_cases h8 : 8 < cs.length
    ·have h8b : (cs.length : Int) > 8:=by omega
     obtain ⟨W9,hW9⟩:=ex (wr.setCell ⟨gn,0,none⟩ (.slice none 0 0));have d0 : W9.cell? ⟨gn,0,none⟩ = some (.slice none 0 0):=by rw [← hW9]; exact ((HQN.out.keep HBR.out).set_ 0 _).cell 0
     have HB9 : Hid (BW w W9):=by rw [← hW9]; exact Lq ((OnlyAt.of_set (belowR wr) gn 0 _).below (belowT HB4.out HBR.out) HGN.out)
     have n0:=(HQN.out.keep HBR.out).c 0;have nf:=(HQN.out.keep HBR.out).frozen 0;have nl:=(HQN.out.keep HBR.out).lt;go_wp2_with fail
     exact bodyPost_ret (v:=.tuple #[.agg #[.slice none 0 0],iv 2,iv 0,iv 3]) (by simp [results,Tryz.results94,go_sem,d0]) rfl (buildNo (by decide) (fun h=>by have:=h.len; simp at this; omega) (fun _ h _ _ _ _ _=>by have:=congrArg List.length h; simp at this; omega) HB9.out)
    ·go_wp2_with fail
     refine (verbs127_any wr).mono ?_;rintro e w7 ⟨bv,rfl,hV,hb7,hbv⟩;have HB7:=Lq (belowT HBR.out hb7);have HV:=Lq hV;have HBV : Hid (gs < bv):=Lq (Nat.lt_of_lt_of_le (Nat.lt_of_lt_of_le HQS.out.lt HBR.out.size) hbv);have s7:=(HQS.out.keep HB7.out).c 0;have n7:=(HQN.out.keep HB7.out).c 0;have nf7:=(HQN.out.keep HB7.out).frozen 0;have nl7:=(HQN.out.keep HB7.out).lt;obtain ⟨W8,hW8⟩:=ex (w7.setCell ⟨gn,0,none⟩ (.slice A ms.length cap));have o8 : OnlyAt w7 W8 gn:=by rw [← hW8]; exact OnlyAt.of_set (belowR w7) gn 0 _
     have qn8 : Blk W8 gn 109 #[.slice A ms.length cap]:=by
      rw [← hW8];have h:=(HQN.out.keep HB7.out).set_ 0 (.slice A ms.length cap)
      simpa using h
     have qs8 : Blk W8 gs 109 #[.slice A ms.length cap]:=(HQS.out.keep HB7.out).same (o8.block gs (HQS.out.keep HB7.out).lt (by have:=HGP.out; omega))
     have qp8 : Blk W8 gp 27 #[.slice A ms.length cap,.slice C cs.length capc]:=(HQP.out.keep HB7.out).same (o8.block gp (HQP.out.keep HB7.out).lt (by have:=HGP.out; omega))
     have HV8 : Hid (VerbsAt W8 bv):=Lq (HV.out.same (o8.block bv HV.out.lt (by have:=HGP.out; have:=HBV.out; omega)))
     have HBW8 : Hid (BW w W8):=Lq (o8.below (belowT HB4.out HB7.out) HGN.out);have HO8 : Hid (Hold gs gn W8 A cap ms):=Lq (fun W hW=>by
      have hall : BW w W:=hW.below HBW8.out (by have:=HGP.out; omega) HGN.out
      exact (HH0.out.below hall hB).more (Nat.le_trans hB hall.size))
     have y1:=qp8.c 1;have HQ8 : Hid (Blk W8 gs 109 #[.slice A ms.length cap] ∧ Blk W8 gn 109 #[.slice A ms.length cap] ∧ Blk W8 gp 27 #[.slice A ms.length cap,.slice C cs.length capc]):=Lq ⟨qs8,qn8,qp8⟩;clear hV hb7 hbv o8 qn8 qs8 qp8 x0 x1;go_wp2_with fail
     clear y1 s7 n7 nf7 nl7 hW8;go_loopw [11,54] (fun la i wr=>∃ (k : Nat) (l : List HuM) (Al : Option Addr) (cl : Nat) (last : Int) (now : List HuM) (An : Option Addr) (cn : Nat),k ≤ cs.length ∧ i = iv k ∧ la = iv last ∧ Hid (Blk wr gs 109 #[.slice Al l.length cl]) ∧ Hid (Blk wr gn 109 #[.slice An now.length cn]) ∧ Hid (Hold gs gn wr Al cl l) ∧ Hid (Hold gs gn wr An cn now) ∧ Hid (RunOn day ms cs k l last now) ∧ Hid (Two gs gn W8 wr) ∧ Hid (k = 0 → An = A ∧ now.length = ms.length ∧ cn = cap)) (fun _ i _=>cs.length - (intOf i).toNat)
     case atStart=>exact ⟨0,ms,A,cap,0,ms,A,cap,Nat.zero_le _,rfl,rfl,Lq HQ8.out.1,Lq HQ8.out.2.1,HO8,HO8,Lq (RunOn.start HSH.out),Lq (Two.of_below (belowR _)),Lq (fun _=>⟨rfl,rfl,rfl⟩)⟩
     case round =>
      clear HBR HB7 HV;obtain ⟨k,l,Al,cl,last,now,An,cn,hk,rfl,rfl,HS,HN,HL,HO,HRT,HTW,HSM⟩:=hrel;have hk0 : (0 : Int) ≤ (k : Int):=by omega
      have HBR : Hid (BW w wr):=Lq (HTW.out.below HBW8.out (by have:=HGP.out; omega) HGN.out)
      by_cases hlt : k < cs.length
      ·obtain ⟨c,hc⟩ : ∃ x,cs[k]? = some x:=⟨_,List.getElem?_eq_getElem hlt⟩;obtain ⟨b,off,hA,hbB,hMc,hcn,c0,c1,c2,c3,c4,c5,c6,c7,c8,c9⟩:=(HCC.out.below HBR.out hB).at hc;have HCI:=Lq hc;have HWC:=Lq (HWF.out c (List.mem_iff_getElem?.2 ⟨k,hc⟩));have HMC:=Lq hMc;have HVR : Hid (VerbsAt wr bv):=Lq (HV8.out.same (HTW.out.block bv HV8.out.lt (by have:=HBV.out; omega) (by have:=HGP.out; have:=HBV.out; omega)))
       clear hc hMc hcn;obtain ⟨wh,dy,nm,⟨⟨yn,yk,yf,yl,yon,yw,yz⟩,yA,yc⟩⟩:=c;subst hA;simp only at c0 c1 c2 c3 c4 c5 c6 c7 c8 c9 HWC HMC;obtain ⟨Wa,W10,hWa,hW10,hb10,hqa,hba,hq10⟩:=chgMade wr 49 wh dy nm yn yk yf yl yw yz yA yc yon.length;obtain ⟨g14,hg14⟩:=ex wr.heap.size;rw [hg14] at hW10 hqa hq10;have HG14 : Hid (gs < g14):=by rw [← hg14]; exact Lq HS.out.lt
       have HB10:=Lq hb10;have HC14 : Hid (∀ W,Two gs gn W10 W → W.cell? ⟨g14,0,none⟩ = some (iv wh) ∧ W.cell? ⟨g14,1,none⟩ = some (iv dy) ∧ W.cell? ⟨g14,2,none⟩ = some (.string nm) ∧ W.cell? ⟨g14,3,none⟩ = some (.string yn) ∧ W.cell? ⟨g14,4,none⟩ = some (iv yk) ∧ W.cell? ⟨g14,5,none⟩ = some (iv yf) ∧ W.cell? ⟨g14,6,none⟩ = some (iv yl) ∧ W.cell? ⟨g14,7,none⟩ = some (.slice yA yon.length yc) ∧ W.cell? ⟨g14,8,none⟩ = some (iv yw) ∧ W.cell? ⟨g14,9,none⟩ = some (iv yz)):=Lq fun W hb=>have k:=hb.blk hq10 (by have:=HG14.out; omega) (by have:=HG14.out; have:=HGP.out; omega); ⟨k.c 0,k.c 1,k.c 2,k.c 3,k.c 4,k.c 5,k.c 6,k.c 7,k.c 8,k.c 9⟩
       obtain ⟨f0,f1,f2,f3,f4,f5,f6,f7,f8,f9⟩:=hqa.f10;obtain ⟨e0,e1,e2,e3,e4,e5,e6,e7,e8,e9⟩:=hqa.c10;have el:=hqa.lt;obtain ⟨d0,d1,d2,d3,d4,d5,d6,d7,d8,d9⟩:=HC14.out _ (Two.of_below (belowR _));have HVX:=Lq (HVR.out.same (hb10.block bv HVR.out.lt));obtain ⟨bI,hbI⟩:=ex (inB last 40000 dy);have HI : Hid (∀ g W,W.cell? ⟨g,0,none⟩ = some (iv dy) → Calls Tryz.prog 54 #[iv last,iv 40000,.slice (some ⟨g,0,none⟩) 1 1] W (Rt W (.bool (!bI)))):=Lq fun g W hc=>hbI ▸ out_one last 40000 dy g W hc (lt_of_cell hc)
       have KI:=Lq hbI;have dl:=hq10.lt;clear hb10 hqa hba hq10 hbI;by_cases w1 : wh = 1
       ·subst w1;have hlk : (Instr.lookup 212 (.map (some bv)) (.int .i64 1) true).run Tryz.prog W10 = .ok (.tuple #[.agg #[(.func (.func 147) #[] #[]),(.func (.func 148) #[] #[])],.bool true]) W10:=look_yes HVX.out HWC.out verb_one;obtain ⟨Wb,W11,hWb,hW11,hb11,hqb,hbb,hq11⟩:=twoMade W10 216 .nilFunc .nilFunc (.func (.func 147) #[] #[]) (.func (.func 148) #[] #[]);obtain ⟨g15,hg15⟩:=ex W10.heap.size;rw [hg15] at hW11 hqb hq11;have HG15 : Hid (g14 < g15):=by rw [← hg15]; exact Lq dl
        have HB11:=Lq hb11;have HC15 : Hid (∀ W,Two gs gn W11 W → W.cell? ⟨g15,0,none⟩ = some (.func (.func 147) #[] #[]) ∧ W.cell? ⟨g15,1,none⟩ = some (.func (.func 148) #[] #[])):=Lq fun W hb=>have k:=hb.blk hq11 (by have:=HG14.out; have:=HG15.out; omega) (by have:=HG14.out; have:=HG15.out; have:=HGP.out; omega); ⟨k.c 0,k.c 1⟩
        have bf0:=hqb.frozen 0;have bf1:=hqb.frozen 1;have be0:=hqb.c 0;have be1:=hqb.c 1;have bl:=hqb.lt;obtain ⟨bd0,bd1⟩:=HC15.out _ (Two.of_below (belowR _));obtain ⟨d0',d1',d2',d3',d4',d5',d6',d7',d8',d9'⟩:=HC14.out _ (Two.of_below hb11);clear hb11 hqb hbb hq11;go_wp2_with fail
        refine (HI.out _ _ (by go_simp)).mono ?_
        rintro e w12 ⟨rfl,hb⟩;have HB12:=Lq (belowT (belowA (belowR W11) _) hb);clear hb hlk c0 c1 c2 c3 c4 c5 c6 c7 c8 c9 d0 d1 d2 d3 d4 d5 d6 d7 d8 d9 e0 e1 e2 e3 e4 e5 e6 e7 e8 e9 f0 f1 f2 f3 f4 f5 f6 f7 f8 f9 el bf0 bf1 be0 be1 bl bd0 bd1 d0' d1' d2' d3' d4' d5' d6' d7' d8' d9' hWa hW10 hg14 hg15 hWb hW11 dl;have HBX:=Lq (belowT HB10.out (belowT HB11.out HB12.out));cases bI with
        | false =>
         obtain ⟨W9,hW9⟩:=ex (w12.setCell ⟨gn,0,none⟩ (.slice An now.length cn));have d0 : W9.cell? ⟨gn,0,none⟩ = some (.slice An now.length cn):=by rw [← hW9]; exact ((HN.out.keep HBX.out).set_ 0 _).cell 0
         have HB9 : Hid (BW w W9):=by rw [← hW9]; exact Lq ((OnlyAt.of_set (belowR w12) gn 0 _).below (belowT HBR.out HBX.out) HGN.out)
         have n0:=(HN.out.keep HBX.out).c 0;have nf:=(HN.out.keep HBX.out).frozen 0;have nl:=(HN.out.keep HBX.out).lt;go_wp2_with fail
         exact bodyPost_ret (v:=.tuple #[.agg #[.slice An now.length cn],iv 2,iv k,iv 7]) (by simp [results,Tryz.results94,go_sem,d0]) rfl (buildNo (by decide) (HRT.out.stop HCI.out (.inl KI.out)) (cd_day HRT.out HCI.out KI.out) HB9.out)
        | true =>
         obtain ⟨bd0,bd1⟩:=HC15.out _ (Two.of_below HB12.out);obtain ⟨d0,d1,d2,d3,d4,d5,d6,d7,d8,d9⟩:=HC14.out _ (Two.of_below (belowT HB11.out HB12.out));obtain ⟨bE,hbE⟩:=ex (nm.toList.isEmpty);have HE : Hid (∀ W,Calls Tryz.prog 147 #[cV (HcM.mk 1 dy nm ⟨⟨yn,yk,yf,yl,yon,yw,yz⟩,yA,yc⟩)] W (Rt W (.bool bE))):=Lq fun W=>hbE ▸ verb147_any (HcM.mk 1 dy nm ⟨⟨yn,yk,yf,yl,yon,yw,yz⟩,yA,yc⟩) W
         have KE:=Lq hbE;clear hbE;go_wp2_with fail
         refine (HE.out _).mono ?_;rintro e w13 ⟨rfl,hb⟩;have HB13:=Lq (belowT HB12.out hb);have HBY:=Lq (belowT HBX.out hb);clear hb bd0 bd1 d0 d1 d2 d3 d4 d5 d6 d7 d8 d9;cases bE with
         | false =>
          obtain ⟨W9,hW9⟩:=ex (w13.setCell ⟨gn,0,none⟩ (.slice An now.length cn));have d0 : W9.cell? ⟨gn,0,none⟩ = some (.slice An now.length cn):=by rw [← hW9]; exact ((HN.out.keep HBY.out).set_ 0 _).cell 0
          have HB9 : Hid (BW w W9):=by rw [← hW9]; exact Lq ((OnlyAt.of_set (belowR w13) gn 0 _).below (belowT HBR.out HBY.out) HGN.out)
          have n0:=(HN.out.keep HBY.out).c 0;have nf:=(HN.out.keep HBY.out).frozen 0;have nl:=(HN.out.keep HBY.out).lt;go_wp2_with fail
          exact bodyPost_ret (v:=.tuple #[.agg #[.slice An now.length cn],iv 2,iv k,iv 6]) (by simp [results,Tryz.results94,go_sem,d0]) rfl (buildNo (by decide) (HRT.out.stop HCI.out (.inr (chgP_bare (by unfold bareB; simp only [HcM.c]; rw [KE.out]; simp)))) (cd_what HCI.out (show (1:Int) ≠ 2 by decide)) HB9.out)
         | true =>
          obtain ⟨bd0,bd1⟩:=HC15.out _ (Two.of_below HB13.out);obtain ⟨d0,d1,d2,d3,d4,d5,d6,d7,d8,d9⟩:=HC14.out _ (Two.of_below (belowT HB11.out HB13.out));have HMU : Hid (Calls Tryz.prog 148 #[.pointer (some ⟨gs,0,none⟩),cV (HcM.mk 1 dy nm ⟨⟨yn,yk,yf,yl,yon,yw,yz⟩,yA,yc⟩)] w13 (MutPost l (HcM.mk 1 dy nm ⟨⟨yn,yk,yf,yl,yon,yw,yz⟩,yA,yc⟩) gs w13)):=Lq (add148_any Al l (HcM.mk 1 dy nm ⟨⟨yn,yk,yf,yl,yon,yw,yz⟩,yA,yc⟩) B cl gs w13 (by have:=HGP.out; omega) (HS.out.keep HBY.out) ((HL.out.on (Two.of_below HBY.out)).keeps) ((HMC.out.below HBY.out (Nat.le_trans hB HBR.out.size))) HRT.out.1 rfl KE.out)
          go_wp2_with fail
          refine HMU.out.mono ?_;rintro e w14 ⟨r,rfl,ho,hno,hyes⟩;have HO14:=Lq ho;have HNO:=Lq hno;have HYES:=Lq hyes;have HT14 : Hid (Two gs gn wr w14):=Lq ((Two.of_below HBY.out).trans (Two.of_only ho));have HNN : Hid (Blk w14 gn 109 #[.slice An now.length cn]):=Lq ((HN.out.keep HBY.out).same (ho.block gn (HN.out.keep HBY.out).lt (by have:=HGP.out; omega)))
          have HBZ : Hid (BW w w14):=Lq (HT14.out.below HBR.out (by have:=HGP.out; omega) HGN.out)
          clear ho hno hyes bd0 bd1 d0 d1 d2 d3 d4 d5 d6 d7 d8 d9;by_cases hr0 : r = 0
          ·subst hr0;obtain ⟨out,Ao,co,hqo,hch,hkp⟩:=HYES.out rfl;have HQO:=Lq hqo;have HCH:=Lq hch;have HKP:=Lq (Hold.of_keeps hkp HNN.out (by have:=HGP.out; omega))
           clear hqo hch hkp HYES HNO;obtain ⟨d0,d1,d2,d3,d4,d5,d6,d7,d8,d9⟩:=HC14.out w14 ((Two.of_below (belowT HB11.out HB13.out)).trans (Two.of_only HO14.out));have s0:=HQO.out.c 0;have n0:=HNN.out.c 0;have nf:=HNN.out.frozen 0;have nl:=HNN.out.lt;have HNX:=Lq (HRT.out.next HCI.out KI.out HCH.out);by_cases hdy : dy ≤ day
           ·have hif : (if (HcM.day (HcM.mk 1 dy nm ⟨⟨yn,yk,yf,yl,yon,yw,yz⟩,yA,yc⟩)) ≤ day then out else now) = out:=if_pos hdy
            have HIF:=Lq hif;clear hif;go_wp2_with fail
            go_roundw
            case measure=>simp [intOf]; omega
            case rel =>
             have o15 : OnlyAt w14 (w14.setCell ⟨gn,0,none⟩ (.slice Ao out.length co)) gn:=OnlyAt.of_set (belowR w14) gn 0 _;refine ⟨k + 1,out,Ao,co,dy,out,Ao,co,by omega,by go_num,rfl,Lq ?_,Lq ?_,Lq (HKP.out.on (Two.of_only2 o15)),Lq (HKP.out.on (Two.of_only2 o15)),Lq (by have h:=HNX.out; rw [HIF.out] at h; exact h),Lq (HTW.out.trans (HT14.out.trans (Two.of_only2 o15))),Lq (fun h=>(by omega))⟩
             ·exact HQO.out.same (o15.block gs HQO.out.lt (by have:=HGP.out; omega))
             ·have h:=HNN.out.set_ 0 (.slice Ao out.length co)
              simpa using h
           ·have hif : (if (HcM.day (HcM.mk 1 dy nm ⟨⟨yn,yk,yf,yl,yon,yw,yz⟩,yA,yc⟩)) ≤ day then out else now) = now:=if_neg hdy
            have HIF:=Lq hif;clear hif;go_wp2_with fail
            go_roundw
            case measure=>simp [intOf]; omega
            case rel=>exact ⟨k + 1,out,Ao,co,dy,now,An,cn,by omega,by go_num,rfl,HQO,HNN,HKP,Lq (HO.out.on HT14.out),Lq (by have h:=HNX.out; rw [HIF.out] at h; exact h),Lq (HTW.out.trans HT14.out),Lq (fun h=>(by omega))⟩
          ·have hr1 : (r != 0) = true:=by simpa using hr0
           obtain ⟨W9,hW9⟩:=ex (w14.setCell ⟨gn,0,none⟩ (.slice An now.length cn));have d0 : W9.cell? ⟨gn,0,none⟩ = some (.slice An now.length cn):=by rw [← hW9]; exact ((HNN.out).set_ 0 _).cell 0
           have HB9 : Hid (BW w W9):=by rw [← hW9]; exact Lq ((OnlyAt.of_set (belowR w14) gn 0 _).below (HBZ.out) HGN.out)
           have n0:=(HNN.out).c 0;have nf:=(HNN.out).frozen 0;have nl:=(HNN.out).lt;go_wp2_with fail
           exact bodyPost_ret (v:=.tuple #[.agg #[.slice An now.length cn],iv 2,iv k,iv r]) (by simp [results,Tryz.results94,go_sem,d0]) rfl (buildNo hr0 (HRT.out.stop HCI.out (.inr (HNO.out hr0).1)) (cd_take HRT.out HCI.out (by first | exact (HNO.out hr0).2 | exact fun _=>(HNO.out hr0).2 trivial)) HB9.out)
       ·by_cases w2 : wh = 2
        ·subst w2;have hlk : (Instr.lookup 212 (.map (some bv)) (.int .i64 2) true).run Tryz.prog W10 = .ok (.tuple #[.agg #[(.func (.func 149) #[] #[]),(.func (.func 150) #[] #[])],.bool true]) W10:=look_yes HVX.out HWC.out verb_two;obtain ⟨Wb,W11,hWb,hW11,hb11,hqb,hbb,hq11⟩:=twoMade W10 216 .nilFunc .nilFunc (.func (.func 149) #[] #[]) (.func (.func 150) #[] #[]);obtain ⟨g15,hg15⟩:=ex W10.heap.size;rw [hg15] at hW11 hqb hq11;have HG15 : Hid (g14 < g15):=by rw [← hg15]; exact Lq dl
         have HB11:=Lq hb11;have HC15 : Hid (∀ W,Two gs gn W11 W → W.cell? ⟨g15,0,none⟩ = some (.func (.func 149) #[] #[]) ∧ W.cell? ⟨g15,1,none⟩ = some (.func (.func 150) #[] #[])):=Lq fun W hb=>have k:=hb.blk hq11 (by have:=HG14.out; have:=HG15.out; omega) (by have:=HG14.out; have:=HG15.out; have:=HGP.out; omega); ⟨k.c 0,k.c 1⟩
         have bf0:=hqb.frozen 0;have bf1:=hqb.frozen 1;have be0:=hqb.c 0;have be1:=hqb.c 1;have bl:=hqb.lt;obtain ⟨bd0,bd1⟩:=HC15.out _ (Two.of_below (belowR _));obtain ⟨d0',d1',d2',d3',d4',d5',d6',d7',d8',d9'⟩:=HC14.out _ (Two.of_below hb11);clear hb11 hqb hbb hq11;go_wp2_with fail
         refine (HI.out _ _ (by go_simp)).mono ?_
         rintro e w12 ⟨rfl,hb⟩;have HB12:=Lq (belowT (belowA (belowR W11) _) hb);clear hb hlk c0 c1 c2 c3 c4 c5 c6 c7 c8 c9 d0 d1 d2 d3 d4 d5 d6 d7 d8 d9 e0 e1 e2 e3 e4 e5 e6 e7 e8 e9 f0 f1 f2 f3 f4 f5 f6 f7 f8 f9 el bf0 bf1 be0 be1 bl bd0 bd1 d0' d1' d2' d3' d4' d5' d6' d7' d8' d9' hWa hW10 hg14 hg15 hWb hW11 dl;have HBX:=Lq (belowT HB10.out (belowT HB11.out HB12.out));cases bI with
         | false =>
          obtain ⟨W9,hW9⟩:=ex (w12.setCell ⟨gn,0,none⟩ (.slice An now.length cn));have d0 : W9.cell? ⟨gn,0,none⟩ = some (.slice An now.length cn):=by rw [← hW9]; exact ((HN.out.keep HBX.out).set_ 0 _).cell 0
          have HB9 : Hid (BW w W9):=by rw [← hW9]; exact Lq ((OnlyAt.of_set (belowR w12) gn 0 _).below (belowT HBR.out HBX.out) HGN.out)
          have n0:=(HN.out.keep HBX.out).c 0;have nf:=(HN.out.keep HBX.out).frozen 0;have nl:=(HN.out.keep HBX.out).lt;go_wp2_with fail
          exact bodyPost_ret (v:=.tuple #[.agg #[.slice An now.length cn],iv 2,iv k,iv 7]) (by simp [results,Tryz.results94,go_sem,d0]) rfl (buildNo (by decide) (HRT.out.stop HCI.out (.inl KI.out)) (cd_day HRT.out HCI.out KI.out) HB9.out)
         | true =>
          obtain ⟨bd0,bd1⟩:=HC15.out _ (Two.of_below HB12.out);obtain ⟨d0,d1,d2,d3,d4,d5,d6,d7,d8,d9⟩:=HC14.out _ (Two.of_below (belowT HB11.out HB12.out));obtain ⟨bE,hbE⟩:=ex (bareP ⟨yn,yk,yf,yl,yon,yw,yz⟩);have HE : Hid (∀ W,Calls Tryz.prog 149 #[cV (HcM.mk 2 dy nm ⟨⟨yn,yk,yf,yl,yon,yw,yz⟩,yA,yc⟩)] W (Rt W (.bool bE))):=Lq fun W=>hbE ▸ verb149_any (HcM.mk 2 dy nm ⟨⟨yn,yk,yf,yl,yon,yw,yz⟩,yA,yc⟩) W (Nat.le_trans HMC.out.le HMC.out.cm)
          have KE:=Lq hbE;clear hbE;go_wp2_with fail
          refine (HE.out _).mono ?_;rintro e w13 ⟨rfl,hb⟩;have HB13:=Lq (belowT HB12.out hb);have HBY:=Lq (belowT HBX.out hb);clear hb bd0 bd1 d0 d1 d2 d3 d4 d5 d6 d7 d8 d9;cases bE with
          | false =>
           obtain ⟨W9,hW9⟩:=ex (w13.setCell ⟨gn,0,none⟩ (.slice An now.length cn));have d0 : W9.cell? ⟨gn,0,none⟩ = some (.slice An now.length cn):=by rw [← hW9]; exact ((HN.out.keep HBY.out).set_ 0 _).cell 0
           have HB9 : Hid (BW w W9):=by rw [← hW9]; exact Lq ((OnlyAt.of_set (belowR w13) gn 0 _).below (belowT HBR.out HBY.out) HGN.out)
           have n0:=(HN.out.keep HBY.out).c 0;have nf:=(HN.out.keep HBY.out).frozen 0;have nl:=(HN.out.keep HBY.out).lt;go_wp2_with fail
           exact bodyPost_ret (v:=.tuple #[.agg #[.slice An now.length cn],iv 2,iv k,iv 6]) (by simp [results,Tryz.results94,go_sem,d0]) rfl (buildNo (by decide) (HRT.out.stop HCI.out (.inr (chgP_bare (by unfold bareB; simp only [HcM.c]; rw [KE.out]; simp)))) (cd_bare HCI.out (by unfold bareB; simp only [HcM.c]; rw [KE.out]; simp) rfl) HB9.out)
          | true =>
           obtain ⟨bd0,bd1⟩:=HC15.out _ (Two.of_below HB13.out);obtain ⟨d0,d1,d2,d3,d4,d5,d6,d7,d8,d9⟩:=HC14.out _ (Two.of_below (belowT HB11.out HB13.out));have HMU : Hid (Calls Tryz.prog 150 #[.pointer (some ⟨gs,0,none⟩),cV (HcM.mk 2 dy nm ⟨⟨yn,yk,yf,yl,yon,yw,yz⟩,yA,yc⟩)] w13 (MutPost l (HcM.mk 2 dy nm ⟨⟨yn,yk,yf,yl,yon,yw,yz⟩,yA,yc⟩) gs w13)):=Lq (take150_any Al l (HcM.mk 2 dy nm ⟨⟨yn,yk,yf,yl,yon,yw,yz⟩,yA,yc⟩) cl gs w13 (HS.out.keep HBY.out) ((HL.out.on (Two.of_below HBY.out)).keeps) HRT.out.1 rfl KE.out);go_wp2_with fail
           refine HMU.out.mono ?_;rintro e w14 ⟨r,rfl,ho,hno,hyes⟩;have HO14:=Lq ho;have HNO:=Lq hno;have HYES:=Lq hyes;have HT14 : Hid (Two gs gn wr w14):=Lq ((Two.of_below HBY.out).trans (Two.of_only ho));have HNN : Hid (Blk w14 gn 109 #[.slice An now.length cn]):=Lq ((HN.out.keep HBY.out).same (ho.block gn (HN.out.keep HBY.out).lt (by have:=HGP.out; omega)))
           have HBZ : Hid (BW w w14):=Lq (HT14.out.below HBR.out (by have:=HGP.out; omega) HGN.out)
           clear ho hno hyes bd0 bd1 d0 d1 d2 d3 d4 d5 d6 d7 d8 d9;by_cases hr0 : r = 0
           ·subst hr0;obtain ⟨out,Ao,co,hqo,hch,hkp⟩:=HYES.out rfl;have HQO:=Lq hqo;have HCH:=Lq hch;have HKP:=Lq (Hold.of_keeps hkp HNN.out (by have:=HGP.out; omega))
            clear hqo hch hkp HYES HNO;obtain ⟨d0,d1,d2,d3,d4,d5,d6,d7,d8,d9⟩:=HC14.out w14 ((Two.of_below (belowT HB11.out HB13.out)).trans (Two.of_only HO14.out));have s0:=HQO.out.c 0;have n0:=HNN.out.c 0;have nf:=HNN.out.frozen 0;have nl:=HNN.out.lt;have HNX:=Lq (HRT.out.next HCI.out KI.out HCH.out);by_cases hdy : dy ≤ day
            ·have hif : (if (HcM.day (HcM.mk 2 dy nm ⟨⟨yn,yk,yf,yl,yon,yw,yz⟩,yA,yc⟩)) ≤ day then out else now) = out:=if_pos hdy
             have HIF:=Lq hif;clear hif;go_wp2_with fail
             go_roundw
             case measure=>simp [intOf]; omega
             case rel =>
              have o15 : OnlyAt w14 (w14.setCell ⟨gn,0,none⟩ (.slice Ao out.length co)) gn:=OnlyAt.of_set (belowR w14) gn 0 _;refine ⟨k + 1,out,Ao,co,dy,out,Ao,co,by omega,by go_num,rfl,Lq ?_,Lq ?_,Lq (HKP.out.on (Two.of_only2 o15)),Lq (HKP.out.on (Two.of_only2 o15)),Lq (by have h:=HNX.out; rw [HIF.out] at h; exact h),Lq (HTW.out.trans (HT14.out.trans (Two.of_only2 o15))),Lq (fun h=>(by omega))⟩
              ·exact HQO.out.same (o15.block gs HQO.out.lt (by have:=HGP.out; omega))
              ·have h:=HNN.out.set_ 0 (.slice Ao out.length co)
               simpa using h
            ·have hif : (if (HcM.day (HcM.mk 2 dy nm ⟨⟨yn,yk,yf,yl,yon,yw,yz⟩,yA,yc⟩)) ≤ day then out else now) = now:=if_neg hdy
             have HIF:=Lq hif;clear hif;go_wp2_with fail
             go_roundw
             case measure=>simp [intOf]; omega
             case rel=>exact ⟨k + 1,out,Ao,co,dy,now,An,cn,by omega,by go_num,rfl,HQO,HNN,HKP,Lq (HO.out.on HT14.out),Lq (by have h:=HNX.out; rw [HIF.out] at h; exact h),Lq (HTW.out.trans HT14.out),Lq (fun h=>(by omega))⟩
           ·have hr1 : (r != 0) = true:=by simpa using hr0
            obtain ⟨W9,hW9⟩:=ex (w14.setCell ⟨gn,0,none⟩ (.slice An now.length cn));have d0 : W9.cell? ⟨gn,0,none⟩ = some (.slice An now.length cn):=by rw [← hW9]; exact ((HNN.out).set_ 0 _).cell 0
            have HB9 : Hid (BW w W9):=by rw [← hW9]; exact Lq ((OnlyAt.of_set (belowR w14) gn 0 _).below (HBZ.out) HGN.out)
            have n0:=(HNN.out).c 0;have nf:=(HNN.out).frozen 0;have nl:=(HNN.out).lt;go_wp2_with fail
            exact bodyPost_ret (v:=.tuple #[.agg #[.slice An now.length cn],iv 2,iv k,iv r]) (by simp [results,Tryz.results94,go_sem,d0]) rfl (buildNo hr0 (HRT.out.stop HCI.out (.inr (HNO.out hr0).1)) (cd_take HRT.out HCI.out (by first | exact (HNO.out hr0).2 | exact fun _=>(HNO.out hr0).2 trivial)) HB9.out)
        ·by_cases w3 : wh = 3
         ·subst w3;have hlk : (Instr.lookup 212 (.map (some bv)) (.int .i64 3) true).run Tryz.prog W10 = .ok (.tuple #[.agg #[(.func (.func 151) #[] #[]),(.func (.func 152) #[] #[])],.bool true]) W10:=look_yes HVX.out HWC.out verb_three;obtain ⟨Wb,W11,hWb,hW11,hb11,hqb,hbb,hq11⟩:=twoMade W10 216 .nilFunc .nilFunc (.func (.func 151) #[] #[]) (.func (.func 152) #[] #[]);obtain ⟨g15,hg15⟩:=ex W10.heap.size;rw [hg15] at hW11 hqb hq11;have HG15 : Hid (g14 < g15):=by rw [← hg15]; exact Lq dl
          have HB11:=Lq hb11;have HC15 : Hid (∀ W,Two gs gn W11 W → W.cell? ⟨g15,0,none⟩ = some (.func (.func 151) #[] #[]) ∧ W.cell? ⟨g15,1,none⟩ = some (.func (.func 152) #[] #[])):=Lq fun W hb=>have k:=hb.blk hq11 (by have:=HG14.out; have:=HG15.out; omega) (by have:=HG14.out; have:=HG15.out; have:=HGP.out; omega); ⟨k.c 0,k.c 1⟩
          have bf0:=hqb.frozen 0;have bf1:=hqb.frozen 1;have be0:=hqb.c 0;have be1:=hqb.c 1;have bl:=hqb.lt;obtain ⟨bd0,bd1⟩:=HC15.out _ (Two.of_below (belowR _));obtain ⟨d0',d1',d2',d3',d4',d5',d6',d7',d8',d9'⟩:=HC14.out _ (Two.of_below hb11);clear hb11 hqb hbb hq11;go_wp2_with fail
          refine (HI.out _ _ (by go_simp)).mono ?_
          rintro e w12 ⟨rfl,hb⟩;have HB12:=Lq (belowT (belowA (belowR W11) _) hb);clear hb hlk c0 c1 c2 c3 c4 c5 c6 c7 c8 c9 d0 d1 d2 d3 d4 d5 d6 d7 d8 d9 e0 e1 e2 e3 e4 e5 e6 e7 e8 e9 f0 f1 f2 f3 f4 f5 f6 f7 f8 f9 el bf0 bf1 be0 be1 bl bd0 bd1 d0' d1' d2' d3' d4' d5' d6' d7' d8' d9' hWa hW10 hg14 hg15 hWb hW11 dl;have HBX:=Lq (belowT HB10.out (belowT HB11.out HB12.out));cases bI with
          | false =>
           obtain ⟨W9,hW9⟩:=ex (w12.setCell ⟨gn,0,none⟩ (.slice An now.length cn));have d0 : W9.cell? ⟨gn,0,none⟩ = some (.slice An now.length cn):=by rw [← hW9]; exact ((HN.out.keep HBX.out).set_ 0 _).cell 0
           have HB9 : Hid (BW w W9):=by rw [← hW9]; exact Lq ((OnlyAt.of_set (belowR w12) gn 0 _).below (belowT HBR.out HBX.out) HGN.out)
           have n0:=(HN.out.keep HBX.out).c 0;have nf:=(HN.out.keep HBX.out).frozen 0;have nl:=(HN.out.keep HBX.out).lt;go_wp2_with fail
           exact bodyPost_ret (v:=.tuple #[.agg #[.slice An now.length cn],iv 2,iv k,iv 7]) (by simp [results,Tryz.results94,go_sem,d0]) rfl (buildNo (by decide) (HRT.out.stop HCI.out (.inl KI.out)) (cd_day HRT.out HCI.out KI.out) HB9.out)
          | true =>
           obtain ⟨bd0,bd1⟩:=HC15.out _ (Two.of_below HB12.out);obtain ⟨d0,d1,d2,d3,d4,d5,d6,d7,d8,d9⟩:=HC14.out _ (Two.of_below (belowT HB11.out HB12.out));obtain ⟨bE,hbE⟩:=ex (true);have HE : Hid (∀ W,Calls Tryz.prog 151 #[cV (HcM.mk 3 dy nm ⟨⟨yn,yk,yf,yl,yon,yw,yz⟩,yA,yc⟩)] W (Rt W (.bool bE))):=Lq fun W=>hbE ▸ verb151_any (HcM.mk 3 dy nm ⟨⟨yn,yk,yf,yl,yon,yw,yz⟩,yA,yc⟩) W
           have KE:=Lq hbE;clear hbE;go_wp2_with fail
           refine (HE.out _).mono ?_;rintro e w13 ⟨rfl,hb⟩;have HB13:=Lq (belowT HB12.out hb);have HBY:=Lq (belowT HBX.out hb);clear hb bd0 bd1 d0 d1 d2 d3 d4 d5 d6 d7 d8 d9;obtain rfl : bE = true:=KE.out.symm;obtain ⟨bd0,bd1⟩:=HC15.out _ (Two.of_below HB13.out);obtain ⟨d0,d1,d2,d3,d4,d5,d6,d7,d8,d9⟩:=HC14.out _ (Two.of_below (belowT HB11.out HB13.out));have HMU : Hid (Calls Tryz.prog 152 #[.pointer (some ⟨gs,0,none⟩),cV (HcM.mk 3 dy nm ⟨⟨yn,yk,yf,yl,yon,yw,yz⟩,yA,yc⟩)] w13 (MutPost l (HcM.mk 3 dy nm ⟨⟨yn,yk,yf,yl,yon,yw,yz⟩,yA,yc⟩) gs w13)):=Lq (swap152_any Al l (HcM.mk 3 dy nm ⟨⟨yn,yk,yf,yl,yon,yw,yz⟩,yA,yc⟩) B cl gs w13 (by have:=HGP.out; omega) (HS.out.keep HBY.out) ((HL.out.on (Two.of_below HBY.out)).keeps) ((HMC.out.below HBY.out (Nat.le_trans hB HBR.out.size))) HRT.out.1 rfl)
           go_wp2_with fail
           refine HMU.out.mono ?_;rintro e w14 ⟨r,rfl,ho,hno,hyes⟩;have HO14:=Lq ho;have HNO:=Lq hno;have HYES:=Lq hyes;have HT14 : Hid (Two gs gn wr w14):=Lq ((Two.of_below HBY.out).trans (Two.of_only ho));have HNN : Hid (Blk w14 gn 109 #[.slice An now.length cn]):=Lq ((HN.out.keep HBY.out).same (ho.block gn (HN.out.keep HBY.out).lt (by have:=HGP.out; omega)))
           have HBZ : Hid (BW w w14):=Lq (HT14.out.below HBR.out (by have:=HGP.out; omega) HGN.out)
           clear ho hno hyes bd0 bd1 d0 d1 d2 d3 d4 d5 d6 d7 d8 d9;by_cases hr0 : r = 0
           ·subst hr0;obtain ⟨out,Ao,co,hqo,hch,hkp⟩:=HYES.out rfl;have HQO:=Lq hqo;have HCH:=Lq hch;have HKP:=Lq (Hold.of_keeps hkp HNN.out (by have:=HGP.out; omega))
            clear hqo hch hkp HYES HNO;obtain ⟨d0,d1,d2,d3,d4,d5,d6,d7,d8,d9⟩:=HC14.out w14 ((Two.of_below (belowT HB11.out HB13.out)).trans (Two.of_only HO14.out));have s0:=HQO.out.c 0;have n0:=HNN.out.c 0;have nf:=HNN.out.frozen 0;have nl:=HNN.out.lt;have HNX:=Lq (HRT.out.next HCI.out KI.out HCH.out);by_cases hdy : dy ≤ day
            ·have hif : (if (HcM.day (HcM.mk 3 dy nm ⟨⟨yn,yk,yf,yl,yon,yw,yz⟩,yA,yc⟩)) ≤ day then out else now) = out:=if_pos hdy
             have HIF:=Lq hif;clear hif;go_wp2_with fail
             go_roundw
             case measure=>simp [intOf]; omega
             case rel =>
              have o15 : OnlyAt w14 (w14.setCell ⟨gn,0,none⟩ (.slice Ao out.length co)) gn:=OnlyAt.of_set (belowR w14) gn 0 _;refine ⟨k + 1,out,Ao,co,dy,out,Ao,co,by omega,by go_num,rfl,Lq ?_,Lq ?_,Lq (HKP.out.on (Two.of_only2 o15)),Lq (HKP.out.on (Two.of_only2 o15)),Lq (by have h:=HNX.out; rw [HIF.out] at h; exact h),Lq (HTW.out.trans (HT14.out.trans (Two.of_only2 o15))),Lq (fun h=>(by omega))⟩
              ·exact HQO.out.same (o15.block gs HQO.out.lt (by have:=HGP.out; omega))
              ·have h:=HNN.out.set_ 0 (.slice Ao out.length co)
               simpa using h
            ·have hif : (if (HcM.day (HcM.mk 3 dy nm ⟨⟨yn,yk,yf,yl,yon,yw,yz⟩,yA,yc⟩)) ≤ day then out else now) = now:=if_neg hdy
             have HIF:=Lq hif;clear hif;go_wp2_with fail
             go_roundw
             case measure=>simp [intOf]; omega
             case rel=>exact ⟨k + 1,out,Ao,co,dy,now,An,cn,by omega,by go_num,rfl,HQO,HNN,HKP,Lq (HO.out.on HT14.out),Lq (by have h:=HNX.out; rw [HIF.out] at h; exact h),Lq (HTW.out.trans HT14.out),Lq (fun h=>(by omega))⟩
           ·have hr1 : (r != 0) = true:=by simpa using hr0
            obtain ⟨W9,hW9⟩:=ex (w14.setCell ⟨gn,0,none⟩ (.slice An now.length cn));have d0 : W9.cell? ⟨gn,0,none⟩ = some (.slice An now.length cn):=by rw [← hW9]; exact ((HNN.out).set_ 0 _).cell 0
            have HB9 : Hid (BW w W9):=by rw [← hW9]; exact Lq ((OnlyAt.of_set (belowR w14) gn 0 _).below (HBZ.out) HGN.out)
            have n0:=(HNN.out).c 0;have nf:=(HNN.out).frozen 0;have nl:=(HNN.out).lt;go_wp2_with fail
            exact bodyPost_ret (v:=.tuple #[.agg #[.slice An now.length cn],iv 2,iv k,iv r]) (by simp [results,Tryz.results94,go_sem,d0]) rfl (buildNo hr0 (HRT.out.stop HCI.out (.inr (HNO.out hr0).1)) (cd_take HRT.out HCI.out (by first | exact (HNO.out hr0).2 | exact fun _=>(HNO.out hr0).2 trivial)) HB9.out)
         ·skip;have hlk : (Instr.lookup 212 (.map (some bv)) (.int .i64 wh) true).run Tryz.prog W10 = .ok (.tuple #[.agg #[.nilFunc,.nilFunc],.bool false]) W10:=look_no HVX.out HWC.out w1 w2 w3;obtain ⟨Wb,W11,hWb,hW11,hb11,hqb,hbb,hq11⟩:=twoMade W10 216 .nilFunc .nilFunc .nilFunc .nilFunc;obtain ⟨g15,hg15⟩:=ex W10.heap.size;rw [hg15] at hW11 hqb hq11;have HG15 : Hid (g14 < g15):=by rw [← hg15]; exact Lq dl
          have HB11:=Lq hb11;have HC15 : Hid (∀ W,Two gs gn W11 W → W.cell? ⟨g15,0,none⟩ = some .nilFunc ∧ W.cell? ⟨g15,1,none⟩ = some .nilFunc):=Lq fun W hb=>have k:=hb.blk hq11 (by have:=HG14.out; have:=HG15.out; omega) (by have:=HG14.out; have:=HG15.out; have:=HGP.out; omega); ⟨k.c 0,k.c 1⟩
          have bf0:=hqb.frozen 0;have bf1:=hqb.frozen 1;have be0:=hqb.c 0;have be1:=hqb.c 1;have bl:=hqb.lt;obtain ⟨bd0,bd1⟩:=HC15.out _ (Two.of_below (belowR _));obtain ⟨d0',d1',d2',d3',d4',d5',d6',d7',d8',d9'⟩:=HC14.out _ (Two.of_below hb11);clear hb11 hqb hbb hq11;go_wp2_with fail
          refine (HI.out _ _ (by go_simp)).mono ?_
          rintro e w12 ⟨rfl,hb⟩;have HB12:=Lq (belowT (belowA (belowR W11) _) hb);clear hb hlk c0 c1 c2 c3 c4 c5 c6 c7 c8 c9 d0 d1 d2 d3 d4 d5 d6 d7 d8 d9 e0 e1 e2 e3 e4 e5 e6 e7 e8 e9 f0 f1 f2 f3 f4 f5 f6 f7 f8 f9 el bf0 bf1 be0 be1 bl bd0 bd1 d0' d1' d2' d3' d4' d5' d6' d7' d8' d9' hWa hW10 hg14 hg15 hWb hW11 dl;have HBX:=Lq (belowT HB10.out (belowT HB11.out HB12.out));cases bI with
          | false =>
           obtain ⟨W9,hW9⟩:=ex (w12.setCell ⟨gn,0,none⟩ (.slice An now.length cn));have d0 : W9.cell? ⟨gn,0,none⟩ = some (.slice An now.length cn):=by rw [← hW9]; exact ((HN.out.keep HBX.out).set_ 0 _).cell 0
           have HB9 : Hid (BW w W9):=by rw [← hW9]; exact Lq ((OnlyAt.of_set (belowR w12) gn 0 _).below (belowT HBR.out HBX.out) HGN.out)
           have n0:=(HN.out.keep HBX.out).c 0;have nf:=(HN.out.keep HBX.out).frozen 0;have nl:=(HN.out.keep HBX.out).lt;go_wp2_with fail
           exact bodyPost_ret (v:=.tuple #[.agg #[.slice An now.length cn],iv 2,iv k,iv 7]) (by simp [results,Tryz.results94,go_sem,d0]) rfl (buildNo (by decide) (HRT.out.stop HCI.out (.inl KI.out)) (cd_day HRT.out HCI.out KI.out) HB9.out)
          | true =>
           obtain ⟨W9,hW9⟩:=ex (w12.setCell ⟨gn,0,none⟩ (.slice An now.length cn));have d0 : W9.cell? ⟨gn,0,none⟩ = some (.slice An now.length cn):=by rw [← hW9]; exact ((HN.out.keep HBX.out).set_ 0 _).cell 0
           have HB9 : Hid (BW w W9):=by rw [← hW9]; exact Lq ((OnlyAt.of_set (belowR w12) gn 0 _).below (belowT HBR.out HBX.out) HGN.out)
           have n0:=(HN.out.keep HBX.out).c 0;have nf:=(HN.out.keep HBX.out).frozen 0;have nl:=(HN.out.keep HBX.out).lt;go_wp2_with fail
           exact bodyPost_ret (v:=.tuple #[.agg #[.slice An now.length cn],iv 2,iv k,iv 6]) (by simp [results,Tryz.results94,go_sem,d0]) rfl (buildNo (by decide) (HRT.out.stop HCI.out (.inr (chgP_none w1 w2 w3))) (cd_what HCI.out w2) HB9.out)
      ·obtain rfl : k = cs.length:=by omega
       have hpl:=HRT.out.done HSH.out (Nat.le_of_not_lt h8);have HPL:=Lq hpl;clear hpl;obtain ⟨W9,hW9⟩:=ex (wr.setCell ⟨gn,0,none⟩ (.slice An now.length cn));have d0 : W9.cell? ⟨gn,0,none⟩ = some (.slice An now.length cn):=by rw [← hW9]; exact (HN.out.set_ 0 _).cell 0
       have o9 : OnlyAt wr W9 gn:=by rw [← hW9]; exact OnlyAt.of_set (belowR wr) gn 0 _
       have HB9 : Hid (BW w W9):=Lq (o9.below HBR.out HGN.out);have HS9:=Lq (HO.out W9 (Two.of_only2 o9));have n0:=HN.out.c 0;have nf:=HN.out.frozen 0;have nl:=HN.out.lt;clear o9;go_wp2_with fail
       exact bodyPost_ret (v:=.tuple #[.agg #[.slice An now.length cn],iv 0,iv 0,iv 0]) (by simp [results,Tryz.results94,go_sem,d0]) rfl ⟨0,0,0,An,_,cn,rfl,HB9.out,⟨fun _=>HPL.out.1,fun _=>rfl⟩,fun _=>⟨now,rfl,HPL.out.2,HS9.out⟩,fun _ h=>HSM.out h,fun h=>absurd rfl h⟩
theorem build94_any (A C : Option Addr) (ms : List HuM) (cs : List HcM) (B cap capc : Nat) (day : Int) (w : World) (hB : B ≤ w.heap.size) (H : SlM w B A cap ms) (HC : SlC w B C capc cs) (HW : ∀ c ∈ cs,Lit.wf (.int .i64 c.what) = true) :
  Calls Tryz.prog 94 #[.agg #[.slice A ms.length cap,.slice C cs.length capc],iv day] w (BuildPost ms cs day w) :=
 (build94_all A C ms cs B cap capc day w hB H HC HW).mono fun _ _ ⟨p,i,r,A',n,c,h1,h2,h3,h4,_⟩=>⟨p,i,r,A',n,c,h1,h2,h3,h4⟩
end
end Go.Proofs.YtpgfldcoojfheaaGreatDoor
