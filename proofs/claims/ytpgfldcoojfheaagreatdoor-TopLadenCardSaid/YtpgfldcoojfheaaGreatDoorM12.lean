/- tide: one, down, at and the closures that it hands out; corners, box. A loop over a function, whatever function it is; no round leaves it. tide: the corners of a box (printed by mkHT4.py). -/
import Derived.Laws.Shifts
import Derived.Laws.ShiftsVarLaws
import Derived.Test.YtpgfldcoojfheaaGreatDoorM0
import Derived.Test.YtpgfldcoojfheaaGreatDoorM1
import Derived.Test.YtpgfldcoojfheaaGreatDoorM5
import Derived.Test.YtpgfldcoojfheaaGreatDoorM7
import Derived.Test.YtpgfldcoojfheaaGreatDoorM10
set_option maxRecDepth 1000000
set_option maxHeartbeats 16000000
namespace Go.Proofs.YtpgfldcoojfheaaGreatDoor
open Go.RowKit
theorem one91_any (n : Int) (w : World) : Calls Tryz.prog 91 #[iv n] w (Rt w (.agg #[iv n,iv n])):=by
 obtain ⟨Wa,W1,hWa,hW1,hb1,hqa,hba,hq1⟩:=twoMade w 29 (iv 0) (iv 0) (iv n) (iv n);obtain ⟨g,hg⟩:=ex w.heap.size;rw [hg] at hW1 hqa hq1;have f0:=hqa.frozen 0;have f1:=hqa.frozen 1;have e0:=hqa.c 0;have e1:=hqa.c 1;have el:=hqa.lt;have d0:=hq1.c 0;have d1:=hq1.c 1;have HB:=Lq hb1;clear hb1 hqa hba hq1;go_enter Tryz.func91,Tryz.ntmps91
 go_wp2_with fail
 exact bodyPost_ret (v:=.agg #[iv n,iv n]) (by simp [results,Tryz.results91,go_sem,d0,d1]) rfl ⟨rfl,HB.out⟩
theorem span46_any (lo hi : Int) (w : World) : Calls Tryz.prog 46 #[iv lo,iv hi] w (Rt w (.agg #[iv lo,iv hi])):=by
 obtain ⟨Wa,W1,hWa,hW1,hb1,hqa,hba,hq1⟩:=twoMade w 29 (iv 0) (iv 0) (iv lo) (iv hi);obtain ⟨g,hg⟩:=ex w.heap.size;rw [hg] at hW1 hqa hq1;have f0:=hqa.frozen 0;have f1:=hqa.frozen 1;have e0:=hqa.c 0;have e1:=hqa.c 1;have el:=hqa.lt;have d0:=hq1.c 0;have d1:=hq1.c 1;have HB:=Lq hb1;clear hb1 hqa hba hq1;go_enter Tryz.func46,Tryz.ntmps46
 go_wp2_with fail
 exact bodyPost_ret (v:=.agg #[iv lo,iv hi]) (by simp [results,Tryz.results46,go_sem,d0,d1]) rfl ⟨rfl,HB.out⟩
theorem down105_any (n d : Int) (w : World) (hd : 1 ≤ d) (hd2 : d ≤ 1000) (hn : -1000000000 ≤ n ∧ n ≤ 1000000000) : Calls Tryz.prog 105 #[iv n,iv d] w fun e w'=>e = .returned (iv (n / d)) ∧ w' = w:=by
 have he:=down_eq n d (by omega)
 obtain ⟨q,hq⟩:=ex (n.tdiv d);obtain ⟨r,hr⟩:=ex (n.tmod d);have h1:=Int.mul_tdiv_add_tmod n d;have hqb : -1000000000 ≤ q ∧ q ≤ 1000000000:=by
  rw [← hq];have ha : (n.tdiv d).natAbs ≤ n.natAbs:=Int.natAbs_tdiv_le_natAbs n d;omega
 rw [hq,hr] at he;have hw1 : wrap64 q = q:=by unfold wrap64; omega
 have hw2 : wrap64 (q - 1) = q - 1:=by unfold wrap64; omega
 have hw3 : IntKind.i64.wrap q = q:=by rw [IntKind.wrap_i64]; omega
 have hw4 : IntKind.i64.wrap (q - 1) = q - 1:=by rw [IntKind.wrap_i64]; omega
 have hb0 : (d == 0) = false:=by simp; omega
 have hrb : -1000 ≤ r ∧ r ≤ 1000:=by
  rw [← hr];have h5:=Int.tmod_lt_of_pos n (show 0 < d by omega)
  have h6:=Int.lt_tmod_of_pos n (show 0 < d by omega)
  omega
 have hw5 : wrap64 r = r:=by unfold wrap64; omega
 have hw6 : IntKind.i64.wrap r = r:=by rw [IntKind.wrap_i64]; omega
 clear h1;by_cases hlt : r < 0
 ·rw [if_pos hlt] at he;have HE:=Lq he;clear he;go_enter Tryz.func105,Tryz.ntmps105
  go_wp2
  go_ret
  exact ⟨ret_int HE.out.symm,rfl⟩
 ·rw [if_neg hlt] at he;have HE:=Lq he;clear he;go_enter Tryz.func105,Tryz.ntmps105
  go_wp2
  go_ret
  exact ⟨ret_int HE.out.symm,rfl⟩
structure AtAt (w : World) (g5 g3 g4 : Nat) (sink bal bite : Int) : Prop where
 b5 : w.cell? ⟨g5,0,none⟩ = some (iv bite)
 b3 : w.cell? ⟨g3,8,none⟩ = some (iv sink)
 b4 : w.cell? ⟨g4,0,none⟩ = some (iv bal)
theorem AtAt.below {w W : World} {g5 g3 g4 : Nat} {sink bal bite : Int} (h : AtAt w g5 g3 g4 sink bal bite) (hb : BW w W) : AtAt W g5 g3 g4 sink bal bite:=⟨keepC hb h.b5,keepC hb h.b3,keepC hb h.b4⟩
abbrev atF (g5 g3 g4 : Nat) : Value:=.func (.func 104) #[] #[.pointer (some ⟨g5,0,none⟩),.pointer (some ⟨g3,0,none⟩),.pointer (some ⟨g4,0,none⟩)]
structure SbOk (sink bal bite : Int) : Prop where
 s : 0 ≤ sink ∧ sink ≤ 50
 b : 0 ≤ bal ∧ bal ≤ 40
 t : 0 ≤ bite ∧ bite ≤ 200
theorem at104_any (g5 g3 g4 : Nat) (c : C4) (sink bal bite : Int) (w : World) (h : AtAt w g5 g3 g4 sink bal bite) (hc : C4Ok c) (hk : SbOk sink bal bite) :
  Calls Tryz.prog 104 #[c4V c,.pointer (some ⟨g5,0,none⟩),.pointer (some ⟨g3,0,none⟩),.pointer (some ⟨g4,0,none⟩)] w (Rt w (iv (atV sink bal bite c))):=by
 obtain ⟨W1,hW1⟩:=ex (w.alloc (.cells #[iv c.a,iv c.b,iv c.c,iv c.d] 123));have b1 : BW w W1:=by rw [← hW1]; exact belowA (belowR w) _
 have q1 : Blk W1 w.heap.size 123 #[iv c.a,iv c.b,iv c.c,iv c.d]:=by rw [← hW1]; exact Blk.new w 123 _
 obtain ⟨g,hg⟩:=ex w.heap.size;rw [hg] at q1;have h2:=h.below b1;have x5:=h2.b5;have x3:=h2.b3;have x4:=h2.b4;obtain ⟨d0,d1,d2,d3⟩:=q1.c4;obtain ⟨ca,cb,cc,cd⟩:=c;simp only at d0 d1 d2 d3 hW1 q1 ⊢;have hs:=hc.s;have hd:=hc.d;have hh:=hc.h;have hw:=hc.w;simp only at hs hd hh hw;have k1:=hk.s;have k2:=hk.b;have k3:=hk.t;have hp0 : 0 ≤ sink * bal:=Int.mul_nonneg k1.1 k2.1;have hp1 : sink * bal ≤ 50 * 40:=Int.mul_le_mul k1.2 k2.2 k2.1 (by omega)
 have HV : Hid (atV sink bal bite ⟨ca,cb,cc,cd⟩ = 1000 * (cc + cd + bite - cb - sink * bal) / ca):=Lq rfl;obtain ⟨p,hp⟩:=ex (sink * bal);rw [hp] at hp0 hp1 HV;obtain ⟨n,hn⟩:=ex (1000 * (cc + cd + bite - cb - p));have hnb : -1000000000 ≤ n ∧ n ≤ 1000000000:=by omega
 have HD:=Lq (fun W=>down105_any n ca W hs.1 (by omega) hnb)
 have HB1:=Lq b1;have e1 : IntKind.i64.wrap (cc + cd) = cc + cd:=by rw [IntKind.wrap_i64]; omega
 have e2 : IntKind.i64.wrap (cc + cd + bite) = cc + cd + bite:=by rw [IntKind.wrap_i64]; omega
 have e3 : IntKind.i64.wrap (cc + cd + bite - cb) = cc + cd + bite - cb:=by rw [IntKind.wrap_i64]; omega
 have e4 : IntKind.i64.wrap p = p:=by rw [IntKind.wrap_i64]; omega
 have e5 : IntKind.i64.wrap (cc + cd + bite - cb - p) = cc + cd + bite - cb - p:=by rw [IntKind.wrap_i64]; omega
 have e6 : IntKind.i64.wrap n = n:=by rw [IntKind.wrap_i64]; omega
 rw [hn] at HV;clear h h2 hc hk b1 q1 hs hd hh hw;go_enter Tryz.func104,Tryz.ntmps104
 go_wp2_with (go_at_call 105; refine (HD.out _).mono ?_; rintro e w' ⟨rfl,rfl⟩)
 go_ret
 exact ⟨ret_int HV.out.symm,HB1.out⟩
end Go.Proofs.YtpgfldcoojfheaaGreatDoor
namespace Go.Proofs.YtpgfldcoojfheaaGreatDoor
open Go.RowKit Go.Shelf
section
variable {W X w : World}
attribute [local go_sem] Oper.semAt_some
structure KeepM (M : Nat → Prop) (w w' : World) : Prop where
 size : w.heap.size ≤ w'.heap.size
 same : ∀ k,¬ M k → k < w.heap.size → w'.heap[k]? = w.heap[k]?
theorem KeepM.refl (M : Nat → Prop) (w : World) : KeepM M w w:=⟨Nat.le_refl _,fun _ _ _=>rfl⟩
theorem KeepM.trans {M : Nat → Prop} {Y Z : World} (h : KeepM M X Y) (k : KeepM M Y Z) : KeepM M X Z :=
 ⟨Nat.le_trans h.size k.size,fun i hm hi=>(k.same i hm (Nat.lt_of_lt_of_le hi h.size)).trans (h.same i hm hi)⟩
theorem KeepM.of_below {M : Nat → Prop} (h : Below W.heap.size W X) : KeepM M W X:=⟨h.size,fun k _ hk=>h.block k hk⟩
theorem KeepM.of_only {M : Nat → Prop} {km : Nat} (h : OnlyAt W X km) (hk : M km) : KeepM M W X:=⟨h.size,fun k hm hlt=>h.block k hlt (fun e=>hm (e ▸ hk))⟩
theorem KeepM.cell {M : Nat → Prop} {w' : World} (h : KeepM M w w') {b o : Nat} {v : Value} (hc : w.cell? ⟨b,o,none⟩ = some v) (hm : ¬ M b) : w'.cell? ⟨b,o,none⟩ = some v :=
 (World.cell?_of_block (w:=w) (a:=⟨b,o,none⟩) (h.same b hm (lt_of_cell hc))).trans hc
theorem grownPut (W : World) (k : Nat) (o : Obj) : W.grownBy (W.putObj k o) (some k):=⟨rfl,rfl,rfl,by simp [World.putObj],fun i _ hne=>World.putObj_heap_other (fun e=>hne (by rw [e]))⟩
def RoundsG {α : Type} (m bw l : Nat) (enc : α → Value) (M : Nat → Prop) (all : List α) (J : List α → World → Prop) : Prop :=
 ∀ (pre : List α) (s : α) (W : World),J pre W → pre ++ [s] <+: all → bw < W.heap.size → YieldAt Fence.wide m Tryz.prog l #[enc s] W fun e W' =>
  KeepM M W W' ∧ e = .returned (.bool true) ∧ J (pre ++ [s]) W'
def IterAt {α : Type} (f : FuncId) (caps : Array Value) (enc : α → Value) (all : List α) (C : Nat → Prop) (w : World) : Prop :=
 ∀ (M : Nat → Prop) (l m : Nat) (J : List α → World → Prop) (W : World),Below w.heap.size w W → (∀ k,M k → C k ∧ k < W.heap.size) → (∀ s W1 W2,J s W1 → Below W.heap.size W1 W2 → J s W2) →
  (∀ m,RoundsG m W.heap.size l enc M all J) → J [] W → CallsIn Fence.wide m Tryz.prog f (#[.func (.yield l) #[] #[]] ++ caps) W fun e W'=>(∃ v,e = .returned v) ∧ J all W'
def roundOutG {α : Type} (M : Nat → Prop) (I : List α → World → Prop) (xs : List α) (W : World) : Exit → Act → World → Prop
 | .normal,_,W'=>KeepM M W W' ∧ I xs W'
 | _,_,_=>False
theorem rangeFunc_gen {α : Type} {p : Tmp} {gf : Operand} {assign body : Code} {Q : Exit → Act → World → Prop} {a : Act} (nn : Nat) (f : FuncId) (caps : Array Value) (enc : α → Value) (all : List α) (M C : Nat → Prop)
  (hg : a.eval gf = .func (.func f) #[] caps) (hiter : IterAt f caps enc all C w) (hMC : ∀ k,M k → C k ∧ k < w.heap.size) (hC : C (w.heap.size + 1))
  (hen : ∀ args w,(callFunc f args).run Tryz.prog w = .ok (.enter f args) w)
  (I : List α → World → Prop) (hI : ∀ s W1 W2,I s W1 → Below w.heap.size W1 W2 → I s W2) (h0 : I [] w)
  (hbody : ∀ (m l : Nat) (pre : List α) (s : α) (W : World),I pre W → pre ++ [s] <+: all → w.heap.size + 2 < W.heap.size →
   assign.wpIn (Fence.wide.inRound l) m Tryz.prog (Exit.then (fun a1 W1=>Below W.heap.size W W1 ∧ ∀ W2,I pre W2 → W1.grownBy W2 (some (w.heap.size + 1)) → W2.heap.size = W1.heap.size → body.wpIn (Fence.wide.inRound l) m Tryz.prog (roundOutG M I (pre ++ [s]) W2) a1 W2) (fun _ _ _=>False)) { tmps:=a.tmps.setIfInBounds p (enc s),defers:=[] } W)
  (hdone : ∀ (W : World),I all W → w.heap.size + 2 ≤ W.heap.size → W.heap[w.heap.size]? = some (.deferred (some [])) → Q .normal { a with defers:={ target:=.collected w.heap.size,args:=#[] }::a.defers } W) :
  (Code.rangeFunc gf #[p] assign body).wpIn Fence.wide nn Tryz.prog Q a w:=by
 refine wpIn_rangeFunc ?_;intro fn hfn;obtain ⟨rec,hrec⟩ : ∃ rec : LoopState → Option Code → Loop,rec = fun st pe=>{ state:=st,pending:=pe,fn,tmps:=a.tmps,params:=#[p],assign,body,defers:=w.heap.size }:=⟨_,rfl⟩
 obtain ⟨W1,hW1⟩ : ∃ W1,(w.alloc (.deferred (some []))).alloc (.loop (rec .ready none)) = W1:=⟨_,rfl⟩;have hL1 : W1.heap[w.heap.size + 1]? = some (.loop (rec .ready none)):=by
  rw [← hW1]; have:=World.alloc_heap_new (w.alloc (.deferred (some []))) (.loop (rec .ready none)); rwa [World.size_alloc] at this
 have hK1 : W1.heap[w.heap.size]? = some (.deferred (some [])):=by
  rw [← hW1]; exact (Below.heap_alloc _ _ _ (by simp)).trans (World.alloc_heap_new w _)
 have hb1 : Below w.heap.size w W1:=by
  rw [← hW1]; exact ((Below.refl _ w).alloc (Nat.le_refl _) _).alloc (by simp) _
 have hs1 : W1.heap.size = w.heap.size + 2:=by rw [← hW1]; simp
 have hI1 : I [] W1:=hI _ _ _ h0 hb1;refine ⟨w.heap.size + 1,[{ target:=.collected w.heap.size,args:=#[] }],W1,{ target:=.fn (.func f) caps,args:=#[.func (.yield (w.heap.size + 1)) #[] #[]] },W1,f,
  #[.func (.yield (w.heap.size + 1)) #[] #[]] ++ caps,W1, ?_, ?_, ?_, ?_,hdd _, ?_⟩
 ·rw [← hW1,hrec]; exact run_enterLoop_outer _ _ _ _ _
 ·simp only [resolve,hg];simp [go_sem]
 ·intro f' hf'; trivial
 ·simp [invoke,go_sem,hen]
 ·have ready : ∀ {B : Nat} {X Y : World} {k : Nat} {o : Obj},Below B X Y → k < B → X.heap[k]? = some o → Y.heap[k]? = some o:=fun hb hk ho=>(hb.block _ hk).trans ho
  refine (hiter (fun k=>M k ∨ k = w.heap.size + 1) (w.heap.size + 1) (nn - 1)
   (fun pre W=>I pre W ∧ W.heap[w.heap.size + 1]? = some (.loop (rec .ready none)) ∧ W.heap[w.heap.size]? = some (.deferred (some [])))
   W1 hb1 (fun k hk=>by
    rcases hk with hk | hk
    ·have:=hMC k hk; exact ⟨this.1,by omega⟩
    ·subst hk; exact ⟨hC,by omega⟩)
   (fun s A B h hb=>⟨hI s A B h.1 (hb.mono (by omega)),ready hb (by omega) h.2.1,ready hb (by omega) h.2.2⟩) ?_ ⟨hI1,hL1,hK1⟩).mono ?_
  ·rintro m pre x W ⟨hi,hl,hk⟩ hpre hbw;have hlt : w.heap.size + 1 < W.heap.size:=(Array.getElem?_eq_some_iff.1 hl).1;have hy : (Instr.yield (w.heap.size + 1) #[enc x]).run Tryz.prog W = .ok (.round (w.heap.size + 1) fn (a.tmps.setIfInBounds p (enc x)) assign body) W:=by
    have:=run_yield (P:=Tryz.prog) (args:=#[enc x]) hl (by rw [hrec]; rfl)
    rw [hrec] at this
    simpa using this
   refine ⟨fn,_,assign,body,hy,roundIn_of_wpIn hfn ?_⟩;refine wpIn_mono (hbody m (w.heap.size + 1) pre x W hi hpre (by omega)) ?_
   rintro e a1 W1' hp;cases e with
   | normal =>
    obtain ⟨hbW,hp⟩:=hp;have hl' : W1'.heap[w.heap.size + 1]? = some (.loop (rec .ready none)):=ready hbW hlt hl;have hk' : W1'.heap[w.heap.size]? = some (.deferred (some [])):=ready hbW (by omega) hk
    have hlt' : w.heap.size + 1 < W1'.heap.size:=(Array.getElem?_eq_some_iff.1 hl').1;have hi' : I pre W1':=hI _ _ _ hi (hbW.mono (by omega))
    refine ⟨_,run_beginRound hl' (by rw [hrec]), ?_⟩
    have hl2 : (W1'.putObj (w.heap.size + 1) (.loop { rec .ready none with state:=.busy })).heap[w.heap.size + 1]? = some (.loop { rec .ready none with state:=.busy }):=World.putObj_heap_same hlt'
    have hk2 : (W1'.putObj (w.heap.size + 1) (.loop { rec .ready none with state:=.busy })).heap[w.heap.size]? = some (.deferred (some [])):=(World.putObj_heap_other (by omega)).trans hk'
    refine wpIn_mono (hp _ (hI _ _ _ hi' (below_putObj _ (by omega) _)) (grownPut _ _ _) (by simp [World.putObj])) ?_
    have fin : ∀ (jump : Option Code) (W3 : World),KeepM M (W1'.putObj (w.heap.size + 1) (.loop { rec .ready none with state:=.busy })) W3 →
      (Instr.endRound (w.heap.size + 1) jump).run Tryz.prog W3 = .ok (.bool jump.isNone) (W3.putObj (w.heap.size + 1) (.loop (rec (if jump.isNone then .ready else .done) jump))) ∧
      (W3.putObj (w.heap.size + 1) (.loop (rec (if jump.isNone then .ready else .done) jump))).heap[w.heap.size + 1]? = some (.loop (rec (if jump.isNone then .ready else .done) jump)) ∧
      (W3.putObj (w.heap.size + 1) (.loop (rec (if jump.isNone then .ready else .done) jump))).heap[w.heap.size]? = some (.deferred (some [])) ∧
      KeepM (fun k=>M k ∨ k = w.heap.size + 1) W (W3.putObj (w.heap.size + 1) (.loop (rec (if jump.isNone then .ready else .done) jump))):=fun jump W3 hk3=>by
     have nM : ∀ k,w.heap.size ≤ k → ¬ M k:=fun k hk hm=>by have:=(hMC k hm).2; omega
     have hl3 : W3.heap[w.heap.size + 1]? = some (.loop { rec .ready none with state:=.busy }):=(hk3.same _ (nM _ (by omega)) (by simp [World.putObj]; omega)).trans hl2
     have hd3 : W3.heap[w.heap.size]? = some (.deferred (some [])):=(hk3.same _ (nM _ (by omega)) (by simp [World.putObj]; omega)).trans hk2
     have:=run_endRound (P:=Tryz.prog) jump hl3;rw [hrec] at this ⊢;have put : ∀ (X : World) (o : Obj),KeepM (fun k=>M k ∨ k = w.heap.size + 1) X (X.putObj (w.heap.size + 1) o):=fun X o =>
      ⟨by simp [World.putObj],fun k hk _=>World.putObj_heap_other (fun e=>hk (.inr e))⟩
     refine ⟨this,World.putObj_heap_same (Array.getElem?_eq_some_iff.1 hl3).1,(World.putObj_heap_other (by omega)).trans hd3, ?_⟩
     exact (((KeepM.of_below hbW).trans (put _ _)).trans ⟨hk3.size,fun k hk=>hk3.same k (fun hm=>hk (.inl hm))⟩).trans (put _ _)
    rintro e a3 W3 hp3;cases e with
    | normal =>
     obtain ⟨hk3,hi3⟩:=hp3;obtain ⟨hr,hl4,hk4,hkb⟩:=fin none W3 hk3;exact ⟨_,_,hr,hkb,rfl,hI _ _ _ hi3 (below_putObj _ (by omega) _),hl4,hk4⟩
    | ret=>exact hp3.elim
    | exit id=>exact hp3.elim
    | goto t=>exact hp3.elim
    | panic ch=>exact hp3.elim
    | outgrown=>exact hp3.elim
   | ret=>exact hp.elim
   | exit id=>exact hp.elim
   | goto t=>exact hp.elim
   | panic ch=>exact hp.elim
   | outgrown=>exact hp.elim
  ·rintro e W2 ⟨⟨v,rfl⟩,hi,hl,hk⟩;have hlt2:=(Array.getElem?_eq_some_iff.1 hl).1;exact ⟨none,_,by have:=run_endLoop (P:=Tryz.prog) hl (by rw [hrec]; simp); rw [hrec] at this; exact this,
    hdone _ (hI _ _ _ hi (below_putObj _ (by omega) _)) (by simp [World.putObj]; omega) ((World.putObj_heap_other (by omega)).trans hk)⟩
end
attribute [local go_sem] Oper.semAt_some
theorem corners58_any (x : BxT) (w : World) : Calls Tryz.prog 58 #[bxV x] w fun e w'=>e = .returned (.func (.func 103) #[] #[.pointer (some ⟨w.heap.size,0,none⟩)]) ∧ w' = w.alloc (.cells #[iv x.slo,iv x.shi,iv x.dlo,iv x.dhi,iv x.hlo,iv x.hhi,iv x.wlo,iv x.whi] 127):=by
 go_enter Tryz.func58,Tryz.ntmps58
 go_wp2
 go_ret
 exact ⟨rfl,rfl⟩
def corC (x : BxT) (s : Nat) : Nat → Array Value
 | 0=>#[iv 0,iv 0,iv 0,iv 0]
 | 1=>#[iv (pk s 0 x.slo x.shi),iv 0,iv 0,iv 0]
 | 2=>#[iv (pk s 0 x.slo x.shi),iv (pk s 1 x.dlo x.dhi),iv 0,iv 0]
 | 3=>#[iv (pk s 0 x.slo x.shi),iv (pk s 1 x.dlo x.dhi),iv (pk s 2 x.hlo x.hhi),iv 0]
 | _=>#[iv (pk s 0 x.slo x.shi),iv (pk s 1 x.dlo x.dhi),iv (pk s 2 x.hlo x.hhi),iv (pk s 3 x.wlo x.whi)]
theorem Tryz.underlying127 : Tryz.prog.underlying 127 = some (.array 4 29):=by kernel_rfl
theorem idx127 (a b c d e f g h : Int) (W : World) :
  (Instr.index 127 (.agg #[iv a,iv b,iv c,iv d,iv e,iv f,iv g,iv h]) (iv 0)).run Tryz.prog W = .ok (.agg #[iv a,iv b]) W ∧ (Instr.index 127 (.agg #[iv a,iv b,iv c,iv d,iv e,iv f,iv g,iv h]) (iv 1)).run Tryz.prog W = .ok (.agg #[iv c,iv d]) W ∧
  (Instr.index 127 (.agg #[iv a,iv b,iv c,iv d,iv e,iv f,iv g,iv h]) (iv 2)).run Tryz.prog W = .ok (.agg #[iv e,iv f]) W ∧ (Instr.index 127 (.agg #[iv a,iv b,iv c,iv d,iv e,iv f,iv g,iv h]) (iv 3)).run Tryz.prog W = .ok (.agg #[iv g,iv h]) W:=by
 refine ⟨?_, ?_, ?_, ?_⟩ <;> simp [Instr.index,run_underlying Tryz.underlying127,asIntOf,go_sem]
theorem bit16 (s : Nat) (h : s < 16) : (bits BinOp.and IntKind.i64 (s : Int) 1 == 1) = hasB s 0 ∧ (bits BinOp.and IntKind.i64 ((s : Int) / 2) 1 == 1) = hasB s 1 ∧ (bits BinOp.and IntKind.i64 ((s : Int) / 4) 1 == 1) = hasB s 2 ∧ (bits BinOp.and IntKind.i64 ((s : Int) / 8) 1 == 1) = hasB s 3:=by
 match s,h with
 | 0,_=>exact ⟨by kernel_rfl,by kernel_rfl,by kernel_rfl,by kernel_rfl⟩
 | 1,_=>exact ⟨by kernel_rfl,by kernel_rfl,by kernel_rfl,by kernel_rfl⟩
 | 2,_=>exact ⟨by kernel_rfl,by kernel_rfl,by kernel_rfl,by kernel_rfl⟩
 | 3,_=>exact ⟨by kernel_rfl,by kernel_rfl,by kernel_rfl,by kernel_rfl⟩
 | 4,_=>exact ⟨by kernel_rfl,by kernel_rfl,by kernel_rfl,by kernel_rfl⟩
 | 5,_=>exact ⟨by kernel_rfl,by kernel_rfl,by kernel_rfl,by kernel_rfl⟩
 | 6,_=>exact ⟨by kernel_rfl,by kernel_rfl,by kernel_rfl,by kernel_rfl⟩
 | 7,_=>exact ⟨by kernel_rfl,by kernel_rfl,by kernel_rfl,by kernel_rfl⟩
 | 8,_=>exact ⟨by kernel_rfl,by kernel_rfl,by kernel_rfl,by kernel_rfl⟩
 | 9,_=>exact ⟨by kernel_rfl,by kernel_rfl,by kernel_rfl,by kernel_rfl⟩
 | 10,_=>exact ⟨by kernel_rfl,by kernel_rfl,by kernel_rfl,by kernel_rfl⟩
 | 11,_=>exact ⟨by kernel_rfl,by kernel_rfl,by kernel_rfl,by kernel_rfl⟩
 | 12,_=>exact ⟨by kernel_rfl,by kernel_rfl,by kernel_rfl,by kernel_rfl⟩
 | 13,_=>exact ⟨by kernel_rfl,by kernel_rfl,by kernel_rfl,by kernel_rfl⟩
 | 14,_=>exact ⟨by kernel_rfl,by kernel_rfl,by kernel_rfl,by kernel_rfl⟩
 | 15,_=>exact ⟨by kernel_rfl,by kernel_rfl,by kernel_rfl,by kernel_rfl⟩
 | n + 16,h=>exact absurd h (by omega)
theorem corners103_iter (tb : Nat) (x : BxT) (w : World) (htb : Blk w tb 127 #[iv x.slo,iv x.shi,iv x.dlo,iv x.dhi,iv x.hlo,iv x.hhi,iv x.wlo,iv x.whi]) :
  IterAt 103 #[.pointer (some ⟨tb,0,none⟩)] c4V (corL x) (fun k=>k ≠ tb) w:=by
 intro M l m J W hbW hM hJb hY hJ0;refine callsIn_wide.2 ?_;have hq:=htb.keep hbW;have HT : Hid (∀ V,KeepM M W V → Blk V tb 127 #[iv x.slo,iv x.shi,iv x.dlo,iv x.dhi,iv x.hlo,iv x.hhi,iv x.wlo,iv x.whi]):=Lq fun V hV=>hq.same (hV.same tb (fun hm=>(hM tb hm).1 rfl) hq.lt)
 have HJB:=Lq hJb;have HY:=Lq hY;have HJ0:=Lq hJ0;have HLT:=Lq hq.lt;clear htb hM hJb hY hJ0 hbW hq;go_enter Tryz.func103,Tryz.ntmps103
 go_wp2_with fail
 go_loopw [7] (fun i wr=>∃ s : Nat,s ≤ 16 ∧ i = iv s ∧ Hid (J (corN x s) wr) ∧ Hid (KeepM M W wr)) (fun i _=>16 - (intOf i).toNat)
 case atStart=>exact ⟨0,Nat.zero_le _,rfl,HJ0,Lq (KeepM.refl _ _)⟩
 case round =>
  clear HJ0;obtain ⟨s,hs,rfl,HJ,HK⟩:=hrel;obtain ⟨wo,hwo⟩ : ∃ wo,wo = wr:=⟨_,rfl⟩;subst hwo;have hs0 : (0 : Int) ≤ (s : Int):=by omega
  by_cases hlt : s < 16
  ·obtain ⟨w1,hw1⟩:=ex (wo.alloc (.cells #[iv 0,iv 0,iv 0,iv 0] 123));have hb1 : BW wo w1:=by rw [← hw1]; exact belowA (belowR _) _
   have hq1 : Blk w1 wo.heap.size 123 #[iv 0,iv 0,iv 0,iv 0]:=by rw [← hw1]; exact Blk.new wo 123 _
   obtain ⟨g,hg⟩:=ex wo.heap.size;rw [hg] at hq1;have HGR : Hid (wo.heap.size ≤ g):=Lq (Nat.le_of_eq hg);have HB1:=Lq hb1;have HQ1:=Lq hq1;have ht:=HT.out w1 (HK.out.trans (KeepM.of_below hb1));obtain ⟨t0,t1,t2,t3,t4,t5,t6,t7⟩:=ht.c8;have HPR:=Lq (corN_pre x hlt);have HSN:=Lq (corN_snoc x s);clear hb1 hq1 ht;obtain ⟨slo,shi,dlo,dhi,hlo,hhi,wlo,whi⟩:=x;simp only at t0 t1 t2 t3 t4 t5 t6 t7;go_wp2_with fail
   clear t0 t1 t2 t3 t4 t5 t6 t7 hw1;go_loopw [11] (fun i w2=>∃ k : Nat,k ≤ 4 ∧ i = iv k ∧ Hid (Blk w2 g 123 (corC ⟨slo,shi,dlo,dhi,hlo,hhi,wlo,whi⟩ s k)) ∧ Hid (BW wo w2)) (fun i _=>4 - (intOf i).toNat)
   case atStart=>exact ⟨0,Nat.zero_le _,rfl,HQ1,HB1⟩
   case round =>
    obtain ⟨k,hk,rfl,HQ,HBR⟩:=hrel;clear HB1 HQ1;by_cases hlt4 : k < 4
    ·have hk4 : k = 0 ∨ k = 1 ∨ k = 2 ∨ k = 3:=by omega
     rcases hk4 with rfl | rfl | rfl | rfl
     ·obtain ⟨Wa,w3,hWa,hW3,hb3,hqa,hba,hq3⟩:=twoMade wr 29 (iv 0) (iv 0) (iv slo) (iv shi);obtain ⟨g6,hg6⟩:=ex wr.heap.size;rw [hg6] at hW3 hqa hq3;have f0:=hqa.frozen 0;have f1:=hqa.frozen 1;have e0:=hqa.c 0;have e1:=hqa.c 1;have el:=hqa.lt;have d0:=hq3.c 0;have d1:=hq3.c 1;have hqg : Blk w3 g 123 #[iv 0,iv 0,iv 0,iv 0]:=HQ.out.keep hb3;have gf:=hqg.frozen 0;have gc:=hqg.c 0;have gl:=hqg.lt;have hne : g6 ≠ g:=by have:=HQ.out.lt; omega
      have hne2 : g ≠ g6:=hne.symm;have HQG:=Lq hqg;have hix:=(idx127 slo shi dlo dhi hlo hhi wlo whi wr).1;have HB3:=Lq (belowT HBR.out hb3);clear hb3 hqa hba hq3 hqg;have hbt:=(bit16 s hlt).1;have HPK : Hid (pk s 0 slo shi = if hasB s 0 then shi else slo):=Lq rfl
      cases hbit : hasB s 0;all_goals
       rw [hbit] at hbt HPK;clear hbit;go_wp2_with fail
       go_roundw
       case measure=>simp [intOf]
       case rel =>
        refine ⟨1,by omega,rfl,Lq ?_,Lq ?_⟩
        ·have hpk:=HPK.out;simp only [if_true,Bool.false_eq_true,if_false] at hpk;show Blk _ g 123 #[iv (pk s 0 slo shi),iv 0,iv 0,iv 0]
         rw [hpk]
         first
         | (have h:=(HQG.out.set_ 0 (iv slo)).set_ 0 (iv shi); simpa using h)
         | (have h:=HQG.out.set_ 0 (iv slo); simpa using h)
        ·first
         | exact belowS (belowS HB3.out HGR.out _) HGR.out _
         | exact belowS HB3.out HGR.out _
     ·obtain ⟨Wa,w3,hWa,hW3,hb3,hqa,hba,hq3⟩:=twoMade wr 29 (iv 0) (iv 0) (iv dlo) (iv dhi);obtain ⟨g6,hg6⟩:=ex wr.heap.size;rw [hg6] at hW3 hqa hq3;have f0:=hqa.frozen 0;have f1:=hqa.frozen 1;have e0:=hqa.c 0;have e1:=hqa.c 1;have el:=hqa.lt;have d0:=hq3.c 0;have d1:=hq3.c 1;have hqg : Blk w3 g 123 #[iv (pk s 0 slo shi),iv 0,iv 0,iv 0]:=HQ.out.keep hb3;have gf:=hqg.frozen 1;have gc:=hqg.c 1;have gl:=hqg.lt;have hne : g6 ≠ g:=by have:=HQ.out.lt; omega
      have hne2 : g ≠ g6:=hne.symm;have HQG:=Lq hqg;have hix:=(idx127 slo shi dlo dhi hlo hhi wlo whi wr).2.1;have HB3:=Lq (belowT HBR.out hb3);clear hb3 hqa hba hq3 hqg;have hbt:=(bit16 s hlt).2.1;have HPK : Hid (pk s 1 dlo dhi = if hasB s 1 then dhi else dlo):=Lq rfl
      cases hbit : hasB s 1;all_goals
       rw [hbit] at hbt HPK;clear hbit;go_wp2_with fail
       go_roundw
       case measure=>simp [intOf]
       case rel =>
        refine ⟨2,by omega,rfl,Lq ?_,Lq ?_⟩
        ·have hpk:=HPK.out;simp only [if_true,Bool.false_eq_true,if_false] at hpk;show Blk _ g 123 #[iv (pk s 0 slo shi),iv (pk s 1 dlo dhi),iv 0,iv 0]
         rw [hpk]
         first
         | (have h:=(HQG.out.set_ 1 (iv dlo)).set_ 1 (iv dhi); simpa using h)
         | (have h:=HQG.out.set_ 1 (iv dlo); simpa using h)
        ·first
         | exact belowS (belowS HB3.out HGR.out _) HGR.out _
         | exact belowS HB3.out HGR.out _
     ·obtain ⟨Wa,w3,hWa,hW3,hb3,hqa,hba,hq3⟩:=twoMade wr 29 (iv 0) (iv 0) (iv hlo) (iv hhi);obtain ⟨g6,hg6⟩:=ex wr.heap.size;rw [hg6] at hW3 hqa hq3;have f0:=hqa.frozen 0;have f1:=hqa.frozen 1;have e0:=hqa.c 0;have e1:=hqa.c 1;have el:=hqa.lt;have d0:=hq3.c 0;have d1:=hq3.c 1;have hqg : Blk w3 g 123 #[iv (pk s 0 slo shi),iv (pk s 1 dlo dhi),iv 0,iv 0]:=HQ.out.keep hb3;have gf:=hqg.frozen 2;have gc:=hqg.c 2;have gl:=hqg.lt;have hne : g6 ≠ g:=by have:=HQ.out.lt; omega
      have hne2 : g ≠ g6:=hne.symm;have HQG:=Lq hqg;have hix:=(idx127 slo shi dlo dhi hlo hhi wlo whi wr).2.2.1;have HB3:=Lq (belowT HBR.out hb3);clear hb3 hqa hba hq3 hqg;have hbt:=(bit16 s hlt).2.2.1;have HPK : Hid (pk s 2 hlo hhi = if hasB s 2 then hhi else hlo):=Lq rfl
      cases hbit : hasB s 2;all_goals
       rw [hbit] at hbt HPK;clear hbit;go_wp2_with fail
       go_roundw
       case measure=>simp [intOf]
       case rel =>
        refine ⟨3,by omega,rfl,Lq ?_,Lq ?_⟩
        ·have hpk:=HPK.out;simp only [if_true,Bool.false_eq_true,if_false] at hpk;show Blk _ g 123 #[iv (pk s 0 slo shi),iv (pk s 1 dlo dhi),iv (pk s 2 hlo hhi),iv 0]
         rw [hpk]
         first
         | (have h:=(HQG.out.set_ 2 (iv hlo)).set_ 2 (iv hhi); simpa using h)
         | (have h:=HQG.out.set_ 2 (iv hlo); simpa using h)
        ·first
         | exact belowS (belowS HB3.out HGR.out _) HGR.out _
         | exact belowS HB3.out HGR.out _
     ·obtain ⟨Wa,w3,hWa,hW3,hb3,hqa,hba,hq3⟩:=twoMade wr 29 (iv 0) (iv 0) (iv wlo) (iv whi);obtain ⟨g6,hg6⟩:=ex wr.heap.size;rw [hg6] at hW3 hqa hq3;have f0:=hqa.frozen 0;have f1:=hqa.frozen 1;have e0:=hqa.c 0;have e1:=hqa.c 1;have el:=hqa.lt;have d0:=hq3.c 0;have d1:=hq3.c 1;have hqg : Blk w3 g 123 #[iv (pk s 0 slo shi),iv (pk s 1 dlo dhi),iv (pk s 2 hlo hhi),iv 0]:=HQ.out.keep hb3;have gf:=hqg.frozen 3;have gc:=hqg.c 3;have gl:=hqg.lt;have hne : g6 ≠ g:=by have:=HQ.out.lt; omega
      have hne2 : g ≠ g6:=hne.symm;have HQG:=Lq hqg;have hix:=(idx127 slo shi dlo dhi hlo hhi wlo whi wr).2.2.2;have HB3:=Lq (belowT HBR.out hb3);clear hb3 hqa hba hq3 hqg;have hbt:=(bit16 s hlt).2.2.2;have HPK : Hid (pk s 3 wlo whi = if hasB s 3 then whi else wlo):=Lq rfl
      cases hbit : hasB s 3;all_goals
       rw [hbit] at hbt HPK;clear hbit;go_wp2_with fail
       go_roundw
       case measure=>simp [intOf]
       case rel =>
        refine ⟨4,by omega,rfl,Lq ?_,Lq ?_⟩
        ·have hpk:=HPK.out;simp only [if_true,Bool.false_eq_true,if_false] at hpk;show Blk _ g 123 #[iv (pk s 0 slo shi),iv (pk s 1 dlo dhi),iv (pk s 2 hlo hhi),iv (pk s 3 wlo whi)]
         rw [hpk]
         first
         | (have h:=(HQG.out.set_ 3 (iv wlo)).set_ 3 (iv whi); simpa using h)
         | (have h:=HQG.out.set_ 3 (iv wlo); simpa using h)
        ·first
         | exact belowS (belowS HB3.out HGR.out _) HGR.out _
         | exact belowS HB3.out HGR.out _
    ·obtain rfl : k = 4:=by omega
     have hsz : W.heap.size < wr.heap.size:=by
      have:=HQ.out.lt;have:=HK.out.size;have:=HGR.out;omega
     obtain ⟨fn,tmps,assign,body,hy,hR⟩:=HY.out 0 (corN ⟨slo,shi,dlo,dhi,hlo,hhi,wlo,whi⟩ s) (cor ⟨slo,shi,dlo,dhi,hlo,hhi,wlo,whi⟩ s) wr (HJB.out _ wo wr HJ.out (HBR.out.mono HK.out.size)) HPR.out hsz;have hq : Blk wr g 123 #[iv (pk s 0 slo shi),iv (pk s 1 dlo dhi),iv (pk s 2 hlo hhi),iv (pk s 3 wlo whi)]:=HQ.out;simp only [cor,c4V] at hy;have HKW:=Lq (HK.out.trans (KeepM.of_below HBR.out));obtain ⟨pa,hpa⟩:=ex (pk s 0 slo shi);obtain ⟨pb,hpb⟩:=ex (pk s 1 dlo dhi);obtain ⟨pc,hpc⟩:=ex (pk s 2 hlo hhi);obtain ⟨pd,hpd⟩:=ex (pk s 3 wlo whi);rw [hpa,hpb,hpc,hpd] at hy hq;obtain ⟨c0,c1,c2,c3⟩:=hq.c4;have HR:=Lq hR;clear hq hpa hpb hpc hpd hR hsz;go_upto_region 11 with fail
     refine (wpIn_wide (n:=0)).1 ?_
     gi_wp2_with fail
     refine ⟨rfl,HR.out.mono ?_⟩;clear HR hy;rintro e W2 ⟨hk2,rfl,hJ2⟩;have HK2:=Lq (HKW.out.trans hk2);have HJ2:=Lq hJ2;clear hk2 hJ2 c0 c1 c2 c3
     gi_wp2_with fail
     go_wp2_with fail
     go_roundw
     case measure=>simp [intOf]; omega
     case rel=>exact ⟨s + 1,by omega,by go_num,Lq (by rw [HSN.out]; exact HJ2.out),HK2⟩
  ·obtain rfl : s = 16:=by omega
   have HJ9:=HJ;clear HJ;go_wp2_with fail
   go_end0
   exact ⟨⟨_,rfl⟩,HJ9.out⟩
end Go.Proofs.YtpgfldcoojfheaaGreatDoor
