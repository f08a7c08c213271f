/- Words for memory: rows that are read, their pieces; keeping what a call owns. A region of a function's text, by its number: for proofs that take one region apart from its function. The operations of a region, by their numbers. A load may be taken first where only such operations write its cell as wait for it. No program is named here. (After the library's law of held cells.) Short forms of the .. -/
import Derived.Maps.AppendAt
import Derived.WalkKit
import Derived.OrdersHeld
import Derived.Deep.RegionHeld
import Derived.Deep.RegionHeld3
import Derived.Lib.Hide
import Derived.Test.YtpgfldcoojfheaaGreatDoorM0
import Derived.Test.YtpgfldcoojfheaaGreatDoorM1
set_option maxRecDepth 1000000
set_option maxHeartbeats 16000000
namespace Go.Proofs.YtpgfldcoojfheaaGreatDoor
open Go.RowKit
section
variable {B b base base' g n n' off p size size' : Nat} {w w' : World} {v v' : Value}
theorem ownKeep {e : TypeId} {xs : List Value} (h : w.ownsRow base e size v n xs) (hk : ∀ k,v.ownBlock = some k → w'.heap[k]? = w.heap[k]?) : w'.ownsRow base e size v n xs:=by
 obtain ⟨h1,h2⟩:=h;refine ⟨h1, ?_⟩;rcases h2 with h2 | ⟨g,cap,cur,hv,hg,hh,r⟩
 ·exact Or.inl h2
 ·subst hv;exact Or.inr ⟨g,cap,cur,rfl,hg,by rw [hk g rfl]; exact hh,r⟩
theorem own_below {e : TypeId} {xs : List Value} (h : w.ownsRow base e size v n xs) (hb : Below w.heap.size w w') : w'.ownsRow base e size v n xs :=
 ownKeep h fun k hk=>hb.block k (h.lt k hk).2
theorem own_base {e : TypeId} {xs : List Value} (h : w.ownsRow base e size v n xs) (hb : base' ≤ base) : w.ownsRow base' e size v n xs:=by
 obtain ⟨h1,h2⟩:=h;refine ⟨h1, ?_⟩;rcases h2 with h2 | ⟨g,cap,cur,hv,hg,r⟩
 ·exact Or.inl h2
 ·exact Or.inr ⟨g,cap,cur,hv,Nat.le_trans hb hg,r⟩
theorem own_only {km : Nat} {e : TypeId} {xs : List Value} (h : w.ownsRow base e size v n xs) (hb : OnlyAt w w' km) (hk : km < base) : w'.ownsRow base e size v n xs :=
 ownKeep h fun k hk'=>hb.block k (h.lt k hk').2 (by have:=(h.lt k hk').1; omega)
theorem flat_cells {α : Type} {k : Nat} (hk : 0 < k) {encs : α → List Value} (he : ∀ x,(encs x).length = k) {xs : List α} (hR : RdN k encs w B (some ⟨b,off,none⟩) xs) : ∀ j u,(xs.flatMap encs)[j]? = some u → w.cell? ⟨b,off + j,none⟩ = some u:=by
 intro j u hu;have hj : j < xs.length * k:=by rw [← flat_len he]; exact (List.getElem?_eq_some_iff.1 hu).1
 have hi : j / k < xs.length:=Nat.div_lt_of_lt_mul (by rw [Nat.mul_comm]; exact hj)
 have hr : j % k < k:=Nat.mod_lt _ hk;obtain ⟨x,hx⟩ : ∃ x,xs[j / k]? = some x:=⟨_,List.getElem?_eq_getElem hi⟩;obtain ⟨v,hv⟩ : ∃ v,(encs x)[j % k]? = some v:=⟨_,List.getElem?_eq_getElem (by rw [he]; exact hr)⟩
 have hf:=flat_get he xs _ x hx _ v hv;have e : j / k * k + j % k = j:=by rw [Nat.mul_comm]; exact Nat.div_add_mod j k
 rw [e,hu] at hf;injection hf with hf
 subst hf;obtain ⟨b',off',eA,_,hc⟩:=hR _ x hx;injection eA with eA
 injection eA with e1 e2
 subst e1 e2;have:=hc _ _ hv
 rwa [Nat.add_assoc,e] at this
structure RowR {α : Type} (lo k : Nat) (enc : α → List Value) (w : World) (A : Option Addr) (cap : Nat) (xs : List α) : Prop where
 le : xs.length ≤ cap
 max : cap ≤ maxLen
 rd : RdN k enc w w.heap.size A xs
 nil0 : A = none → xs = [] ∧ cap = 0
 here : ∀ a,A = some a → a.spot = none ∧ lo ≤ a.block ∧ a.block < w.heap.size
section
variable {α : Type} {lo k : Nat} {enc : α → List Value} {w w' : World} {A : Option Addr} {cap : Nat} {xs : List α}
theorem RowR.nil : RowR lo k enc w none 0 []:=⟨Nat.le_refl _,Nat.zero_le _,RdN.nil,fun _=>⟨rfl,rfl⟩,fun _ h=>by cases h⟩
theorem RowR.below (h : RowR lo k enc w A cap xs) (hb : Below w.heap.size w w') : RowR lo k enc w' A cap xs :=
 ⟨h.le,h.max,(h.rd.below hb (Nat.le_refl _)).more hb.size,h.nil0,fun a ha=>⟨(h.here a ha).1,(h.here a ha).2.1,Nat.lt_of_lt_of_le (h.here a ha).2.2 hb.size⟩⟩
theorem RowR.set (h : RowR lo k enc w A cap xs) {o : Nat} (hg : g < lo) (u : Value) : RowR lo k enc (w.setCell ⟨g,o,none⟩ u) A cap xs:=by
 refine ⟨h.le,h.max,fun i x hx=>?_,h.nil0,fun a ha=>?_⟩
 ·obtain ⟨b,off,e,hb,hc⟩:=h.rd i x hx;have:=(h.here _ e).2.1;refine ⟨b,off,e,by simpa using hb,fun j v hv=>?_⟩
  exact keepSet (hc j v hv) (by simp only at this; omega)
 ·obtain ⟨h1,h2,h3⟩:=h.here a ha;exact ⟨h1,h2,by simpa using h3⟩
theorem RowR.of_own (he : ∀ x,(enc x).length = k) {e : TypeId} {ys : List Value} (h : w.ownsRow lo e k v n ys) (hn : n = xs.length) (hys : ys = xs.flatMap enc) (h0 : 0 < xs.length) : ∃ A cap,v = .slice A xs.length cap ∧ RowR lo k enc w A cap xs:=by
 subst hn hys;obtain ⟨A,cap,e1,h2,h3,h4,h5⟩:=own_rdN he h;obtain ⟨x,hx⟩ : ∃ x,xs[0]? = some x:=⟨_,List.getElem?_eq_getElem h0⟩;obtain ⟨b,off,rfl,hb,hc⟩:=h2 0 x hx;refine ⟨_,cap,e1,h4,h5,h2,fun h=>(by cases h),fun a ha=>?_⟩
 injection ha with ha
 subst ha;exact ⟨rfl,(h3 b off rfl).1,hb⟩
theorem RowR.low (he : ∀ x,(enc x).length = k) (h1 : ∀ x,∀ u ∈ enc x,u.oneCell' = true) (h : RowR lo k enc w A cap xs) (hp : p ≤ xs.length) : Srcs w k (.slice A p cap) p ((xs.take p).flatMap enc):=by
 cases A with
 | none =>
  obtain ⟨rfl,rfl⟩:=h.nil0 rfl;have : p = 0:=by simpa using hp
  subst this;exact .inl ⟨rfl,rfl,rfl⟩
 | some a =>
  refine .inr ⟨a,cap,rfl,by rw [flat_len he]; simp [Nat.min_eq_left hp],fun j u hu=>?_,fun u hu=>?_⟩
  ·by_cases hk : 0 < k
   ·have h0 : 0 < (xs.take p).length:=by
     rcases Nat.eq_zero_or_pos (xs.take p).length with h0 | h0
     ·rw [List.length_eq_zero_iff.1 h0] at hu; simp at hu
     ·exact h0
    have hrt:=h.rd.take p;obtain ⟨b,off,e,_,_⟩:=hrt 0 _ (List.getElem?_eq_getElem h0);injection e with e
    subst e;rw [add_off];exact flat_cells hk he hrt j u hu
   ·have hl:=flat_len he (xs.take p);have : k = 0:=by omega
    rw [this,Nat.mul_zero] at hl;rw [List.length_eq_zero_iff.1 hl] at hu;simp at hu
  ·obtain ⟨c,_,hc⟩:=List.mem_flatMap.1 hu;exact h1 c u hc
theorem RdN.drop (h : RdN k enc w B (some ⟨b,off,none⟩) xs) (p : Nat) : RdN k enc w B (some ⟨b,off + p * k,none⟩) (xs.drop p):=by
 intro i x hx;rw [List.getElem?_drop] at hx;obtain ⟨b',off',e,hb,hc⟩:=h (p + i) x hx;injection e with e
 injection e with e1 e2
 subst e1 e2;refine ⟨b,_,rfl,hb,fun j u hu=>?_⟩
 have:=hc j u hu;rw [Nat.add_mul,← Nat.add_assoc] at this;exact this
theorem RowR.high (hk : 0 < k) (he : ∀ x,(enc x).length = k) (h1 : ∀ x,∀ u ∈ enc x,u.oneCell' = true) (h : RowR lo k enc w A cap xs) (hn : n = xs.length) (hp : p ≤ n) : Srcs w k (.slice (if cap = p then A else A.map fun x=>x.add (p * k)) (n - p) (cap - p)) (n - p) ((xs.drop p).flatMap enc):=by
 subst hn;cases A with
 | none =>
  obtain ⟨rfl,rfl⟩:=h.nil0 rfl;have : p = 0:=by simpa using hp
  subst this;exact .inl ⟨by simp,rfl,rfl⟩
 | some a =>
  by_cases hc : cap = p
  ·have hle:=h.le;have hpl : p = xs.length:=by omega
   rw [if_pos hc];refine .inr ⟨a,cap - p,by simp, ?_, ?_, ?_⟩
   ·rw [flat_len he]; simp
   ·intro j u hu;rw [hpl,List.drop_length] at hu;simp at hu
   ·intro u hu;rw [hpl,List.drop_length] at hu;simp at hu
  ·rw [if_neg hc];obtain ⟨hs,_,_⟩:=h.here a rfl;obtain ⟨b,off,sub⟩:=a;simp only at hs;subst hs;refine .inr ⟨⟨b,off + p * k,none⟩,cap - p,by simp [add_off],by rw [flat_len he]; simp,fun j u hu=>?_,fun u hu=>?_⟩
   ·rw [add_off];exact flat_cells hk he (h.rd.drop p) j u hu
   ·obtain ⟨c,_,hc⟩:=List.mem_flatMap.1 hu;exact h1 c u hc
end
theorem wpList_append_srcs {P : Program} {ops : Array Oper} {rest : List Oper} {o : Oper} {a : Act} {Q : Exit → Act → World → Prop} (hgd : o.guard = none) (s x : Operand) (t : TypeId)
  (ho : o.op = .call { callee:=.builtin .append,args:=#[s,x],argTypes:=#[t,t] })
  (base : Nat) (e : TypeId) (i : TypeInfo) (z : Value) (size bytes : Nat) (ht : P.underlying t = some (.slice e)) (hi : P.info? e = some i) (hz : i.zero = some z)
  (hsize : i.size = size) (hby : i.bytes = bytes) (hzs : z.cells.size = size) (hsz : 0 < size)
  (v : Value) (n : Nat) (xs : List Value) (hs : a.eval s = v) (hown : w.ownsRow base e size v n xs)
  (src : Value) (m : Nat) (news : List Value) (hx : a.eval x = src) (hsrc : Srcs w size src m news)
  (h63 : n + m ≤ maxLen) (hbytes : (n + m) * bytes ≤ 140737488355328) (hbase : base ≤ w.heap.size)
  (h : ∀ v' w',w'.ownsRow base e size v' (n + m) (xs ++ news) → w.grownBy w' v.ownBlock → (v'.ownBlock = v.ownBlock ∨ v'.ownBlock = some w.heap.size) → wpList P ops Q rest (a.put o.dst v') w') :
  wpList P ops Q (o::rest) a w:=by
 rcases hsrc with ⟨rfl,rfl,rfl⟩ | ⟨ad,c,rfl,hl,hnews,h1⟩
 ·refine wpList_plain hgd fun K hK=>?_
  have hr:=run_append_owned_none (P:=P) w base t o.type e i size ht hi v n xs hown;unfold Oper.wp execOp;simp only [ho,resolve,invoke,builtin,Sem.run_bind,Sem.run_pure,Result.andThen_ok,List.map_toArray,List.map_cons,List.map_nil,hs,hx,hr];exact hK _ _ (h v w (by simpa using hown) (grownBy_refl _ _) (.inl rfl))
 ·exact wpList_append_own_at w hgd s x t ho base e i z size bytes ht hi hz hsize hby hzs hsz v n xs hs hown ad m c news hx hl hnews h1 h63 hbytes hbase fun v' w' a b _ d=>h v' w' a b d
section
variable {w w' : World} {base : Nat} {e : TypeId} {size n : Nat} {v : Value} {xs : List Value}
theorem own_apart {e' : TypeId} {xs' : List Value} (h : w.ownsRow base e size v n xs) (h' : w.ownsRow base' e' size' v' n' xs') (he : e ≠ e') (hg : v.ownBlock = some g) : v'.ownBlock ≠ some g:=by
 intro hg';rcases h.2 with ⟨rfl,_⟩ | ⟨g1,cap,cur,rfl,_,h1,_⟩
 ·cases hg
 rcases h'.2 with ⟨rfl,_⟩ | ⟨g2,cap2,cur2,rfl,_,h2,_⟩
 ·cases hg'
 simp only [Value.ownBlock,Option.some.injEq] at hg hg';subst hg hg';rw [h1] at h2;injection h2 with h2
 injection h2 with _ h2
 exact he h2
theorem own_grown {e' : TypeId} {xs' : List Value} (h : w.ownsRow base e size v n xs) (h' : w.ownsRow base' e' size' v' n' xs') (he : e ≠ e') (hg : w.grownBy w' v'.ownBlock) : w'.ownsRow base e size v n xs :=
 ownKeep h fun k hk=>hg.block k (h.lt k hk).2 fun e2=>own_apart h h' he hk e2.symm
theorem own_slice (h : w.ownsRow base e size v n xs) : ∃ A c,v = .slice A n c:=by
 rcases h.2 with ⟨rfl,rfl⟩ | ⟨g,cap,cur,rfl,_⟩
 ·exact ⟨none,0,rfl⟩
 ·exact ⟨_,_,rfl⟩
theorem own_zero (h : w.ownsRow base e size v n xs) : w.ownsRow 0 e size v n xs:=own_base h (Nat.zero_le _)
end
end
end Go.Proofs.YtpgfldcoojfheaaGreatDoor
namespace Go.Proofs.YtpgfldcoojfheaaGreatDoor
def regionNo (n : Nat) : Code → Option Code
 | .region id ops d=>if id = n then some (.region id ops d) else none
 | .seq a b=>match regionNo n a with
  | some c=>some c
  | none=>regionNo n b
 | .cond _ a b=>match regionNo n a with
  | some c=>some c
  | none=>regionNo n b
 | .block _ c=>regionNo n c
 | .loop c=>regionNo n c
 | .scope c=>regionNo n c
 | _=>none
noncomputable def regionOf (f : Func) (n : Nat) : Code:=(f.body.bind (regionNo n)).getD .skip
noncomputable def opsOf : Code → Array Oper
 | .region _ ops _=>ops
 | _=>#[]
noncomputable def opN (ops : Array Oper) (i : Nat) : Oper:=(ops[i]?).getD default
end Go.Proofs.YtpgfldcoojfheaaGreatDoor
namespace Go.Proofs.YtpgfldcoojfheaaGreatDoor
open Go
section
variable {fuel i : Nat} {v : Value} {w : World}
section
variable {P : Program} {ops : Array Oper} {Q : Exit → Act → World → Prop} {md : Region.Mode} {S : World → Prop} {late : Nat → Bool}
def wpAnyL (P : Program) (md : Region.Mode) (ops : Array Oper) (Q : Exit → Act → World → Prop) (S : World → Prop) (late : Nat → Bool) : Nat → Array Bool → Act → World → Prop
 | 0,listed,a,w=>Region.ready md ops listed = [] ∧ Q .normal a w
 | fuel + 1,listed,a,w =>
  (Region.ready md ops listed = [] → Q .normal a w) ∧
  ∀ i ∈ Region.ready md ops listed,wpOp P ops Q i (fun a' w'=>(late i = true → wpAny P md ops Q fuel (listed.setIfInBounds i true) a' w') ∧ (late i = false → S w' ∧ wpAnyL P md ops Q S late fuel (listed.setIfInBounds i true) a' w')) a w
theorem wpAny_of_late : ∀ (fuel : Nat) (listed : Array Bool) (a : Act) (w : World),wpAnyL P md ops Q S late fuel listed a w → wpAny P md ops Q fuel listed a w
 | 0,_,_,_,h=>h
 | fuel + 1,_,_,_,h=>⟨h.1,fun i hi=>wpOp_mono (fun a' w' h'=>by
   cases hl : late i with
   | true=>exact h'.1 hl
   | false=>exact wpAny_of_late fuel _ a' w' (h'.2 hl).2) (h.2 i hi)⟩
def waitsN (md : Region.Mode) (ops : Array Oper) (i : Nat) : Nat → Nat → Bool
 | 0,_=>false
 | f + 1,j=>match ops[j]? with
  | some o=>o.after.any fun e=>Region.binds md e && (e.on == i || waitsN md ops i f e.on)
  | none=>false
def waitsAll (md : Region.Mode) (ops : Array Oper) (late : Nat → Bool) (i : Nat) : Bool :=
 (List.range ops.size).all fun j=>!late j || waitsN md ops i ops.size j
def Closed (md : Region.Mode) (ops : Array Oper) (listed : Array Bool) : Prop:=∀ j oj,ops[j]? = some oj → listed.getD j false = true → ∀ e ∈ oj.after,Region.binds md e = true → listed.getD e.on false = true
def closedB (md : Region.Mode) (ops : Array Oper) (listed : Array Bool) : Bool :=
 (List.range ops.size).all fun j=>!listed.getD j false || (match ops[j]? with | some o=>o.after.all fun e=>!Region.binds md e || listed.getD e.on false | none=>true)
theorem closedB_spec {listed : Array Bool} (h : closedB md ops listed = true) : Closed md ops listed:=fun j oj ho hl e he hb=>by
 unfold closedB at h;rw [List.all_eq_true] at h;have:=h j (List.mem_range.2 (Array.getElem?_eq_some_iff.1 ho).1);rw [hl,ho] at this;simp only [Bool.not_true,Bool.false_or,Array.all_eq_true,Bool.or_eq_true,Bool.not_eq_true'] at this;obtain ⟨k,hk,rfl⟩:=Array.mem_iff_getElem.1 he;rcases this k hk with h1 | h1
 ·rw [hb] at h1; cases h1
 ·exact h1
theorem waitsN_listed {listed : Array Bool} (hc : Closed md ops listed) : ∀ (f j : Nat) (oj : Oper),ops[j]? = some oj → (∀ e ∈ oj.after,Region.binds md e = true → listed.getD e.on false = true) → waitsN md ops i f j = true → listed.getD i false = true:=by
 intro f;induction f with
 | zero=>intro j oj _ _ h; cases h
 | succ f ih =>
  intro j oj ho hall h;rw [waitsN,ho] at h;simp only [Array.any_eq_true,Bool.and_eq_true,Bool.or_eq_true,beq_iff_eq] at h;obtain ⟨k,hk,h1,h2⟩:=h;have hl:=hall _ (Array.getElem_mem hk) h1;rcases h2 with h2 | h2
  ·rw [← h2]; exact hl
  ·cases hk2 : ops[(oj.after[k]).on]? with
   | none =>
    cases f with
    | zero=>cases h2
    | succ f=>rw [waitsN,hk2] at h2; cases h2
   | some ok=>exact ih _ ok hk2 (fun e he hb=>hc _ ok hk2 hl e he hb) h2
theorem Closed.set {listed : Array Bool} {j : Nat} (hc : Closed md ops listed) (hr : j ∈ Region.ready md ops listed) : Closed md ops (listed.setIfInBounds j true):=fun k ok hk hl e he hb=>by
 by_cases hjk : j = k
 ·subst hjk;obtain ⟨_,oj,hoj,hall⟩:=mem_ready.1 hr;rw [hk] at hoj;injection hoj with hoj
  subst hoj;exact getD_set_true (hall e he hb)
 ·rw [getD_set_ne false hjk] at hl;exact getD_set_true (hc k ok hk hl e he hb)
theorem wpAnyL_first {oi : Oper} (hi : ops[i]? = some oi) (hsel : ∀ (j : Nat) (o : Oper) cs b,ops[j]? = some o → o.op ≠ .select cs b)
  (hQ : ∀ c a w,Q (.panic c) (a.put oi.dst v) w → Q (.panic c) a w) (hli : late i = false) (hw : ∀ j,j < ops.size → late j = true → waitsN md ops i ops.size j = true) :
  ∀ (fuel : Nat) (listed : Array Bool) (a : Act) (w : World),
   (∀ j oj,ops[j]? = some oj → j ≠ i → listed.getD j true = false → (∀ e ∈ oj.after,Region.binds md e = true → e.on ≠ i) → oi.apart ops oj = true) →
   Closed md ops listed → i ∈ Region.ready md ops listed → YieldsIf P ops S oi v a → S w →
   wpAnyL P md ops Q S late fuel (listed.setIfInBounds i true) (a.put oi.dst v) w → wpAnyL P md ops Q S late (fuel + 1) listed a w:=by
 intro fuel;induction fuel with
 | zero =>
  intro listed a w _ _ hr hy hS H;refine ⟨fun h=>(by rw [h] at hr; cases hr),fun j hj=>?_⟩
  by_cases hji : j = i
  ·subst hji; exact hy.wpOp hi hS ⟨fun h=>(by rw [hli] at h; cases h),fun _=>⟨hS,H⟩⟩
  ·have:=ready_mono hj hji;rw [H.1] at this;cases this
 | succ fuel ih =>
  intro listed a w hfree hcl hr hy hS H;refine ⟨fun h=>(by rw [h] at hr; cases hr),fun j hj=>?_⟩
  by_cases hji : j = i
  ·subst hji; exact hy.wpOp hi hS ⟨fun h=>(by rw [hli] at h; cases h),fun _=>⟨hS,H⟩⟩
  ·have h1:=H.2 j (ready_mono hj hji);obtain ⟨hjun,oj,hoj,hall⟩:=mem_ready.1 hj;have hnot : ∀ e ∈ oj.after,Region.binds md e = true → e.on ≠ i:=fun e he hb heq=>by
    have h1:=hall e he hb;have h0:=(mem_ready.1 hr).1;rw [heq] at h1;rcases Nat.lt_or_ge i listed.size with h' | h'
    ·simp [h'] at h0 h1; rw [h0] at h1; cases h1
    ·simp [Array.getElem?_eq_none h'] at h1
   have hlj : late j = false:=by
    cases hl : late j with
    | false=>rfl
    | true =>
     have h9:=waitsN_listed hcl _ j oj hoj hall (hw j (Array.getElem?_eq_some_iff.1 hoj).1 hl);have h0:=(mem_ready.1 hr).1;rcases Nat.lt_or_ge i listed.size with h' | h'
     ·simp [h'] at h0 h9; rw [h0] at h9; cases h9
     ·simp [Array.getElem?_eq_none h'] at h9
   have h1' : wpOp P ops Q j (fun a' w'=>S w' ∧ wpAnyL P md ops Q S late fuel ((listed.setIfInBounds i true).setIfInBounds j true) a' w') (a.put oi.dst v) w:=wpOp_mono (fun a' w' h=>h.2 hlj) h1
   have h2:=wpOp_putIf hoj (hfree j oj hoj hji hjun hnot) (fun cs b=>hsel i oi cs b hi) (fun cs b=>hsel j oj cs b hoj) hQ hy h1'
   have hfree' : ∀ k ok,ops[k]? = some ok → k ≠ i → (listed.setIfInBounds j true).getD k true = false →
     (∀ e ∈ ok.after,Region.binds md e = true → e.on ≠ i) → oi.apart ops ok = true:=fun k ok hk hki hun hno=>by
    refine hfree k ok hk hki ?_ hno;by_cases hjk : j = k
    ·subst hjk; exact hjun
    ·rw [getD_set_ne true hjk] at hun; exact hun
   refine wpOp_mono (fun a' w' h3=>⟨fun h=>(by rw [hlj] at h; cases h),fun _=>⟨h3.2.1,ih (listed.setIfInBounds j true) a' w' hfree' (hcl.set hj) (ready_mono hr (Ne.symm hji)) h3.1 h3.2.1 ?_⟩⟩) h2
   rw [Array.setIfInBounds_comm _ _ hji];exact h3.2.2
theorem wpAnyL_take {oi : Oper} {listed : Array Bool} {a : Act} (hi : ops[i]? = some oi)
  (hs : Region.noSelect ops = true) (hf : Region.free md ops listed i = true) (hr : (Region.ready md ops listed).contains i = true)
  (hQ : ∀ c a w,Q (.panic c) (a.put oi.dst v) w → Q (.panic c) a w) (hli : late i = false) (hw : waitsAll md ops late i = true) (hcl : closedB md ops listed = true) (hy : YieldsIf P ops S oi v a) (hS : S w)
  (h : wpAnyL P md ops Q S late fuel (listed.setIfInBounds i true) (a.put oi.dst v) w) : wpAnyL P md ops Q S late (fuel + 1) listed a w :=
 wpAnyL_first hi (Region.noSelect_spec hs) hQ hli (fun j hj hl=>by unfold waitsAll at hw; rw [List.all_eq_true] at hw; have:=hw j (List.mem_range.2 hj); rw [hl] at this; simpa using this) fuel listed a w (Region.free_spec hi hf) (closedB_spec hcl) (by simpa using hr) hy hS h
def AllReadyL (P : Program) (md : Region.Mode) (ops : Array Oper) (Q : Exit → Act → World → Prop) (S : World → Prop) (late : Nat → Bool) (fuel : Nat) (listed : Array Bool) (a : Act) (w : World) (rs : List Nat) : Prop :=
 ∀ i ∈ rs,wpOp P ops Q i (fun a' w'=>(late i = true → wpAny P md ops Q fuel (listed.setIfInBounds i true) a' w') ∧ (late i = false → S w' ∧ wpAnyL P md ops Q S late fuel (listed.setIfInBounds i true) a' w')) a w
theorem AllReadyL.nil {listed : Array Bool} {a : Act} : AllReadyL P md ops Q S late fuel listed a w []:=fun _ h=>by cases h
theorem AllReadyL.cons {listed : Array Bool} {a : Act} {o : Oper} {rs : List Nat} (ho : ops[i]? = some o) (hl : late i = false)
  (h : ∀ K' : Act → World → Prop,Shut (∀ a w,S w → (S w → wpAnyL P md ops Q S late fuel (listed.setIfInBounds i true) a w) → K' a w) → if Region.wanted o (yielded ops a.tmps) = true then Oper.wp P o a w K' Q else K' (a.put o.dst undef) w)
  (hs : AllReadyL P md ops Q S late fuel listed a w rs) : AllReadyL P md ops Q S late fuel listed a w (i::rs):=fun j hj=>by
 rcases List.mem_cons.1 hj with rfl | hj
 ·exact wpOp_step ho (fun K' hK=>h K' (fun a w hS hW=>hK a w ⟨fun h=>(by rw [hl] at h; cases h),fun _=>⟨hS,hW hS⟩⟩))
 ·exact hs j hj
theorem AllReadyL.last {listed : Array Bool} {a : Act} {o : Oper} {rs : List Nat} (ho : ops[i]? = some o) (hl : late i = true)
  (h : ∀ K' : Act → World → Prop,Shut (∀ a w,wpAny P md ops Q fuel (listed.setIfInBounds i true) a w → K' a w) → if Region.wanted o (yielded ops a.tmps) = true then Oper.wp P o a w K' Q else K' (a.put o.dst undef) w)
  (hs : AllReadyL P md ops Q S late fuel listed a w rs) : AllReadyL P md ops Q S late fuel listed a w (i::rs):=fun j hj=>by
 rcases List.mem_cons.1 hj with rfl | hj
 ·exact wpOp_step ho (fun K' hK=>h K' (fun a w hW=>hK a w ⟨fun _=>hW,fun h=>(by rw [hl] at h; cases h)⟩))
 ·exact hs j hj
theorem wpAnyL_ready {rs : List Nat} {listed : Array Bool} {a : Act} (hr : Region.ready md ops listed = rs) (hne : rs ≠ [])
  (h : AllReadyL P md ops Q S late fuel listed a w rs) : wpAnyL P md ops Q S late (fuel + 1) listed a w :=
 ⟨fun h0=>absurd (hr ▸ h0) hne,hr ▸ h⟩
theorem wp_region_late {id : Nat} {a : Act} (hm : P.follows .mixedOrders = true)
  (h : wpAnyL P .any ops Q S late ops.size (Array.replicate ops.size false) a w.drew) : (Code.region id ops true).wp P Q a w :=
 wp_region_any hm (wpAny_of_late _ _ _ _ h)
end
end
end Go.Proofs.YtpgfldcoojfheaaGreatDoor
namespace Go.Proofs.YtpgfldcoojfheaaGreatDoor
open Go Go.RowKit
section
variable {P : Program} {ops : Array Oper} {Q : Exit → Act → World → Prop} {md : Region.Mode} {S : World → Prop} {late : Nat → Bool} {fuel : Nat} {listed l' l2 l3 : Array Bool} {a a' : Act} {w : World}
noncomputable def takeB (md : Region.Mode) (ops : Array Oper) (listed : Array Bool) (i : Nat) : Bool:=Region.noSelect ops && Region.free md ops listed i && (Region.ready md ops listed).contains i
theorem tk (i : Nat) (v : Value) (h : wpAnyH P md ops Q S fuel l' a' w) (hi : ops[i]? = some (opN ops i):=by kernel_rfl) (hb : takeB md ops listed i = true:=by kernel_rfl)
  (hy : YieldsIf P ops S (opN ops i) v a:=by
   generalize e : opN _ _ = o;conv at e=>lhs; whnf
   subst e;refine Or.inl ⟨by first | rfl | kernel_rfl, ?_⟩
   intro w hSw
   (repeat (have hx:=hSw.1; replace hSw:=hSw.2))
   go_simp)
  (hS : S w:=by first | assumption | trivial)
  (hl : listed.setIfInBounds i true = l':=by
   simp only [List.setIfInBounds_toArray,List.set_cons_zero,List.set_cons_succ];rfl)
  (ha : a.put (opN ops i).dst v = a':=by
   generalize e : opN _ _ = o;conv at e=>lhs; whnf
   subst e
   (try simp only [Act.put,List.setIfInBounds_toArray,List.set_cons_zero,List.set_cons_succ])
   rfl)
  (hQ : ∀ c a w,Q (.panic c) (a.put (opN ops i).dst v) w → Q (.panic c) a w:=by exact fun _ _ _ h=>h) : wpAnyH P md ops Q S (fuel + 1) listed a w:=by
 subst hl ha;simp only [takeB,Bool.and_eq_true] at hb;exact wpAnyH_take hi hb.1.1 hb.1.2 hb.2 hQ hy hS h
noncomputable def takeLB (md : Region.Mode) (ops : Array Oper) (late : Nat → Bool) (listed : Array Bool) (i : Nat) : Bool:=takeB md ops listed i && !late i && waitsAll md ops late i && closedB md ops listed
theorem tkL (i : Nat) (v : Value) (h : wpAnyL P md ops Q S late fuel l' a' w) (hi : ops[i]? = some (opN ops i):=by kernel_rfl) (hb : takeLB md ops late listed i = true:=by kernel_rfl)
  (hy : YieldsIf P ops S (opN ops i) v a:=by
   generalize e : opN _ _ = o;conv at e=>lhs; whnf
   subst e;refine Or.inl ⟨by first | rfl | kernel_rfl, ?_⟩
   intro w hSw
   (repeat (have hx:=hSw.1; replace hSw:=hSw.2))
   go_simp)
  (hS : S w:=by first | assumption | trivial)
  (hl : listed.setIfInBounds i true = l':=by
   simp only [List.setIfInBounds_toArray,List.set_cons_zero,List.set_cons_succ];rfl)
  (ha : a.put (opN ops i).dst v = a':=by
   generalize e : opN _ _ = o;conv at e=>lhs; whnf
   subst e
   (try simp only [Act.put,List.setIfInBounds_toArray,List.set_cons_zero,List.set_cons_succ])
   rfl)
  (hQ : ∀ c a w,Q (.panic c) (a.put (opN ops i).dst v) w → Q (.panic c) a w:=by exact fun _ _ _ h=>h) : wpAnyL P md ops Q S late (fuel + 1) listed a w:=by
 subst hl ha;simp only [takeLB,takeB,Bool.and_eq_true,Bool.not_eq_true'] at hb;exact wpAnyL_take hi hb.1.1.1.1.1 hb.1.1.1.1.2 hb.1.1.1.2 hQ hb.1.1.2 hb.1.2 hb.2 hy hS h
theorem rd1 (i : Nat) {o : Oper} (h : ∀ K' : Act → World → Prop,Shut (∀ a w,S w → (S w → wpAnyH P md ops Q S fuel l' a w) → K' a w) → if Region.wanted o (yielded ops a.tmps) = true then Oper.wp P o a w K' Q else K' (a.put o.dst undef) w)
  (ho : opN ops i = o:=by
   (conv=>lhs; whnf) <;> rfl)
  (hi : ops[i]? = some (opN ops i):=by kernel_rfl) (hr : Region.ready md ops listed = [i]:=by kernel_rfl)
  (hl : listed.setIfInBounds i true = l':=by
   simp only [List.setIfInBounds_toArray,List.set_cons_zero,List.set_cons_succ];rfl) : wpAnyH P md ops Q S (fuel + 1) listed a w:=by
 subst hl ho;exact wpAnyH_ready hr (by simp) (AllReadyH.cons hi h AllReadyH.nil)
theorem rd2 (i j : Nat) {o p : Oper} (h : ∀ K' : Act → World → Prop,Shut (∀ a w,S w → (S w → wpAnyH P md ops Q S fuel l' a w) → K' a w) → if Region.wanted o (yielded ops a.tmps) = true then Oper.wp P o a w K' Q else K' (a.put o.dst undef) w)
  (h2 : ∀ K' : Act → World → Prop,Shut (∀ a w,S w → (S w → wpAnyH P md ops Q S fuel l2 a w) → K' a w) → if Region.wanted p (yielded ops a.tmps) = true then Oper.wp P p a w K' Q else K' (a.put p.dst undef) w)
  (ho : opN ops i = o:=by
   (conv=>lhs; whnf) <;> rfl)
  (hp : opN ops j = p:=by
   (conv=>lhs; whnf) <;> rfl)
  (hi : ops[i]? = some (opN ops i):=by kernel_rfl) (hj : ops[j]? = some (opN ops j):=by kernel_rfl) (hr : Region.ready md ops listed = [i,j]:=by kernel_rfl)
  (hl : listed.setIfInBounds i true = l':=by
   simp only [List.setIfInBounds_toArray,List.set_cons_zero,List.set_cons_succ];rfl)
  (hl2 : listed.setIfInBounds j true = l2:=by
   simp only [List.setIfInBounds_toArray,List.set_cons_zero,List.set_cons_succ];rfl) : wpAnyH P md ops Q S (fuel + 1) listed a w:=by
 subst hl hl2 ho hp;exact wpAnyH_ready hr (by simp) (AllReadyH.cons hi h (AllReadyH.cons hj h2 AllReadyH.nil))
theorem rdL1 (i : Nat) {o : Oper} (h : ∀ K' : Act → World → Prop,Shut (∀ a w,S w → (S w → wpAnyL P md ops Q S late fuel l' a w) → K' a w) → if Region.wanted o (yielded ops a.tmps) = true then Oper.wp P o a w K' Q else K' (a.put o.dst undef) w)
  (ho : opN ops i = o:=by
   (conv=>lhs; whnf) <;> rfl)
  (hi : ops[i]? = some (opN ops i):=by kernel_rfl) (hr : Region.ready md ops listed = [i]:=by kernel_rfl) (hla : late i = false:=by rfl)
  (hl : listed.setIfInBounds i true = l':=by
   simp only [List.setIfInBounds_toArray,List.set_cons_zero,List.set_cons_succ];rfl) : wpAnyL P md ops Q S late (fuel + 1) listed a w:=by
 subst hl ho;exact wpAnyL_ready hr (by simp) (AllReadyL.cons hi hla h AllReadyL.nil)
theorem rdL2 (i j : Nat) {o p : Oper} (h : ∀ K' : Act → World → Prop,Shut (∀ a w,S w → (S w → wpAnyL P md ops Q S late fuel l' a w) → K' a w) → if Region.wanted o (yielded ops a.tmps) = true then Oper.wp P o a w K' Q else K' (a.put o.dst undef) w)
  (h2 : ∀ K' : Act → World → Prop,Shut (∀ a w,S w → (S w → wpAnyL P md ops Q S late fuel l2 a w) → K' a w) → if Region.wanted p (yielded ops a.tmps) = true then Oper.wp P p a w K' Q else K' (a.put p.dst undef) w)
  (ho : opN ops i = o:=by
   (conv=>lhs; whnf) <;> rfl)
  (hp : opN ops j = p:=by
   (conv=>lhs; whnf) <;> rfl)
  (hi : ops[i]? = some (opN ops i):=by kernel_rfl) (hj : ops[j]? = some (opN ops j):=by kernel_rfl) (hr : Region.ready md ops listed = [i,j]:=by kernel_rfl) (hla : late i = false:=by rfl) (hlb : late j = false:=by rfl)
  (hl : listed.setIfInBounds i true = l':=by
   simp only [List.setIfInBounds_toArray,List.set_cons_zero,List.set_cons_succ];rfl)
  (hl2 : listed.setIfInBounds j true = l2:=by
   simp only [List.setIfInBounds_toArray,List.set_cons_zero,List.set_cons_succ];rfl) : wpAnyL P md ops Q S late (fuel + 1) listed a w:=by
 subst hl hl2 ho hp;exact wpAnyL_ready hr (by simp) (AllReadyL.cons hi hla h (AllReadyL.cons hj hlb h2 AllReadyL.nil))
theorem rdT (i : Nat) {o : Oper} (h : ∀ K' : Act → World → Prop,Shut (∀ a w,wpAny P md ops Q fuel l' a w → K' a w) → if Region.wanted o (yielded ops a.tmps) = true then Oper.wp P o a w K' Q else K' (a.put o.dst undef) w)
  (ho : opN ops i = o:=by
   (conv=>lhs; whnf) <;> rfl)
  (hi : ops[i]? = some (opN ops i):=by kernel_rfl) (hr : Region.ready md ops listed = [i]:=by kernel_rfl) (hla : late i = true:=by rfl)
  (hl : listed.setIfInBounds i true = l':=by
   simp only [List.setIfInBounds_toArray,List.set_cons_zero,List.set_cons_succ];rfl) : wpAnyL P md ops Q S late (fuel + 1) listed a w:=by
 subst hl ho;exact wpAnyL_ready hr (by simp) (AllReadyL.last hi hla h AllReadyL.nil)
theorem go0 {c : Code} {n r : Nat} {V : World} (hS : ∀ W,Below V.heap.size V W → S W) (h : ∀ V0,Hid (Below V.heap.size V V0) → S V0 → wpAnyH P .any ops (NoPanic Q) S n listed a V0)
  (hm : P.follows .mixedOrders = true:=by kernel_rfl) (hc : c = Code.region r ops true:=by kernel_rfl) (hn : ops.size = n:=by kernel_rfl) (hl : Array.replicate n false = listed:=by
   simp only [Array.replicate_succ,Array.replicate_zero,List.push_toArray,List.nil_append,List.cons_append];rfl) : c.wp P Q a V:=by
 subst hc hl hn;have hb:=belowDq (belowR V);exact wp_region_noPanic (wp_region_held_drew hm (hS _ hb) fun hh=>h _ (Lib.hid hb) hh)
end
end Go.Proofs.YtpgfldcoojfheaaGreatDoor
namespace Go.Proofs.YtpgfldcoojfheaaGreatDoor
open Go.RowKit
section
variable {n : Nat}
theorem Tryz.info47 : (Tryz.prog.info? 47).map (fun i=>(i.zero,i.size,i.bytes)) = some (some (.agg #[.string ⟨#[]⟩,.int .i64 0,.int .i64 0,.int .i64 0,.slice none 0 0,.int .i64 0,.int .i64 0]),7,80):=by kernel_rfl
theorem encM_one : ∀ m,∀ u ∈ encM m,u.oneCell' = true:=by intro m u hu; simp [encM] at hu; rcases hu with rfl | rfl | rfl | rfl | rfl | rfl | rfl <;> rfl
structure SlM (w : World) (B : Nat) (A : Option Addr) (cap : Nat) (ms : List HuM) : Prop where
 rd : MsRd w B A ms
 le : ms.length ≤ cap
 max : cap ≤ maxLen
 nil0 : A = none → cap = 0
 off : ∀ a,A = some a → a.spot = none ∧ a.block < B
section
variable {w w' : World} {B B' : Nat} {A : Option Addr} {cap : Nat} {ms : List HuM}
theorem SlM.below (h : SlM w B A cap ms) (hb : Below B' w w') (hB : B ≤ B') : SlM w' B A cap ms:=⟨h.rd.below hb hB,h.le,h.max,h.nil0,h.off⟩
theorem SlM.more (h : SlM w B A cap ms) (hB : B ≤ B') : SlM w B' A cap ms:=⟨h.rd.more hB,h.le,h.max,h.nil0,fun a e=>⟨(h.off a e).1,Nat.lt_of_lt_of_le (h.off a e).2 hB⟩⟩
theorem SlM.take (h : SlM w B A cap ms) (n : Nat) : SlM w B A cap (ms.take n):=⟨h.rd.take n,Nat.le_trans (List.length_take_le' ..) h.le,h.max,h.nil0,h.off⟩
theorem SlM.row (h : SlM w B A cap ms) (hB : B ≤ w.heap.size) : RowR 0 7 encM w A cap ms :=
 ⟨h.le,h.max,h.rd.rd.more hB,fun e=>⟨List.length_eq_zero_iff.1 (by have:=h.le; have:=h.nil0 e; omega),h.nil0 e⟩,fun a e=>⟨(h.off a e).1,Nat.zero_le _,Nat.lt_of_lt_of_le (h.off a e).2 hB⟩⟩
theorem SlM.of_own {base : Nat} {v : Value} (h : w.ownsRow base 47 7 v n (ms.flatMap encM)) (hn : n = ms.length) (hok : ∀ m ∈ ms,MOk w w.heap.size m) : ∃ A cap,v = .slice A ms.length cap ∧ SlM w w.heap.size A cap ms:=by
 subst hn;have h':=h;obtain ⟨A,cap,e1,h2,h3,h4,h5⟩:=own_rdN encM_len h;refine ⟨A,cap,e1,⟨h2,hok⟩,h4,h5, ?_, ?_⟩
 ·intro e;subst e;obtain ⟨_,h2⟩:=h';rcases h2 with ⟨hv,_⟩ | ⟨g,c2,cur,hv,_⟩
  ·rw [e1] at hv;injection hv
  ·rw [e1] at hv;injection hv with hv _
   cases hv
 ·intro a e;subst e;obtain ⟨_,h2⟩:=h';rcases h2 with ⟨hv,_⟩ | ⟨g,c2,cur,hv,_,hg,_⟩
  ·rw [e1] at hv;injection hv with hv _
   cases hv
  ·rw [e1] at hv;injection hv with hv _
   injection hv with hv
   subst hv;refine ⟨rfl, ?_⟩;rcases Nat.lt_or_ge g w.heap.size with hlt | hge
   ·exact hlt
   ·rw [Array.getElem?_eq_none hge] at hg; cases hg
end
noncomputable def ops65_1 : Array Oper:=opsOf (regionOf Tryz.f65 1)
theorem reg65_1 {Q : Exit → Act → World → Prop} {V : World} {A : Option Addr} {cap i : Nat} {C1 C2 : List Value} {z2 z3 z4 z5 z6 z7 z8 z9 z10 z11 z12 z13 z14 : Value}
  (hi : i < n) (hn : n ≤ 12) (hnc : n ≤ cap) (hcap : cap ≤ maxLen) (hC1 : Srcs V 7 (.slice A i cap) i C1)
  (hC2 : Srcs V 7 (.slice (if cap = i + 1 then A else A.map fun x=>x.add ((i + 1) * 7)) (n - (i + 1)) (cap - (i + 1))) (n - (i + 1)) C2)
  (hQ : ∀ u5 u6 u7 u8 u9 u10 u11 u12 u13 u14 v' W',LiveB V W' [some ⟨v',47,7,0 + i + (n - (i + 1)),[] ++ C1 ++ C2⟩,none,none,none] → Q .normal ⟨#[.slice A n cap,iv i,z2,z3,v',u5,u6,u7,u8,u9,u10,u11,u12,u13,u14],[]⟩ W') :
  (regionOf Tryz.f65 1).wp Tryz.prog Q ⟨#[.slice A n cap,iv i,z2,z3,z4,z5,z6,z7,z8,z9,z10,z11,z12,z13,z14],[]⟩ V:=by
 obtain ⟨i47,hi47,hz470,hz471,hz472⟩:=info_parts Tryz.info47;have H1:=Lq hC1;have H2:=Lq hC2;have HQ:=Lq hQ;have _u:=hcap;have h0 : (0 : Int) ≤ (i : Int):=by omega
 have hi2 : (i : Int) ≤ (cap : Int):=by omega
 have hi3 : (i : Int) + 1 ≤ (n : Int):=by omega
 have hi4 : (i : Int) + 1 ≤ (cap : Int):=by omega
 have hw : IntKind.i64.wrap ((i : Int) + 1) = (i : Int) + 1:=by rw [IntKind.wrap_i64]; simp only [maxLen] at hcap; omega
 have hng : ¬ ((i : Int) + 1 < 0):=by omega
 have htn : ((i : Int) + 1).toNat = i + 1:=by omega
 have hL : Hid (LiveB V V.drew [none,none,none,none]):=Lq liveB_start;clear hC1 hC2 hQ;refine go0 (ops:=ops65_1) (r:=1) (n:=11) (S:=fun W=>BW V W) (fun W hb=>hb) fun V0 HB0 hHeld=>?_
 refine tk 1 (.slice A n cap) ?_;refine tk 2 (iv i) ?_;refine tk 3 (.slice A i cap) ?_;refine tk 5 (.slice A n cap) ?_;refine tk 6 (iv i) ?_;refine tk 7 (iv (i + 1)) ?_;refine tk 8 (.slice (if cap = i + 1 then A else A.map fun x=>x.add ((i + 1) * 7)) (n - (i + 1)) (cap - (i + 1))) ?_
 refine rd1 0 fun K' hK=>?_
 go_simp;have L1 : Hid (LiveB V (V0.alloc (.cells #[] 47)) [some ⟨.slice (some ⟨V0.heap.size,0,none⟩) 0 0,47,7,0,[]⟩,none,none,none]):=Lq (liveB_lit (L:=[none,none,none,none]) ⟨HB0.out,live_nil HB0.out.size⟩ 0 #[] 47 7 0 (by simp [maxLen]) rfl)
 obtain ⟨V1,hV1⟩:=ex (V0.alloc (.cells #[] 47));obtain ⟨g1,hg1⟩:=ex V0.heap.size;rw [hV1,hg1] at L1;rw [hV1,hg1];refine hK.out _ _ L1.out.1 (fun hHeld=>?_)
 clear hK hV1 hg1;refine rd1 4 fun K' hK=>?_
 refine step_append_live (by rfl) _ _ 22 (by rfl) L1.out 0 _ rfl i47 _ 80 Tryz.underlying22 hi47 hz470 hz471 hz472 rfl (Nat.succ_pos _) (by rfl) (.slice A i cap) i _ (by rfl) (srcs_keep L1.out H1.out) (by simp only []; unfold maxLen; omega) (by simp only []; omega) ?_
 intro v2 V2 hL2;have L2:=Lq hL2;refine hK.out _ _ hL2.1 (fun hHeld=>?_)
 clear hK hL2 L1;refine rd1 9 fun K' hK=>?_
 refine step_append_live (by rfl) _ _ 22 (by rfl) L2.out 0 _ rfl i47 _ 80 Tryz.underlying22 hi47 hz470 hz471 hz472 rfl (Nat.succ_pos _) (by rfl) (.slice (if cap = i + 1 then A else A.map fun x=>x.add ((i + 1) * 7)) (n - (i + 1)) (cap - (i + 1))) (n - (i + 1)) _ (by rfl) (srcs_keep L2.out H2.out) (by simp only []; unfold maxLen; omega) (by simp only []; omega) ?_
 intro v3 V3 hL3;have L3:=Lq hL3;refine hK.out _ _ hL3.1 (fun hHeld=>?_)
 clear hK hL3 L2;refine tk 10 v3 ?_;refine wpAnyH_done (by kernel_rfl) ?_ _
 exact NoPanic.normal (HQ.out _ _ _ _ _ _ _ _ _ _ _ _ L3.out)
def OwnMs (l : List HuM) (w : World) (e : Ending) (w' : World) : Prop:=∃ v,e = .returned v ∧ w'.ownsRow w.heap.size 47 7 v l.length (l.flatMap encM) ∧ Below w.heap.size w w'
theorem without65_any (A : Option Addr) (ms : List HuM) (B cap i : Nat) (w : World) (hB : B ≤ w.heap.size) (H : SlM w B A cap ms) (hn : ms.length ≤ 12) (hi : i < ms.length) :
  Calls Tryz.prog 65 #[.slice A ms.length cap,iv i] w (OwnMs (ms.eraseIdx i) w):=by
 have HR:=H.row hB;have H1:=Lq (HR.low encM_len encM_one (p:=i) (Nat.le_of_lt hi));have H2:=Lq (HR.high (by omega) encM_len encM_one (n:=ms.length) (p:=i + 1) rfl hi)
 have hle:=H.le;have hmx:=H.max;clear H HR;go_enter Tryz.func65,Tryz.ntmps65
 go_wp2_with fail
 go_upto_region 1 with fail
 refine reg65_1 hi hn hle hmx H1.out H2.out ?_;intro u5 u6 u7 u8 u9 u10 u11 u12 u13 u14 v' W' hL;have L:=Lq hL;clear hL H1 H2;go_wp2_with fail
 go_ret
 refine ⟨v',rfl, ?_,L.out.1⟩;have ho:=live_own L.out.2 (i:=0) rfl;have hl : (ms.eraseIdx i).length = 0 + i + (ms.length - (i + 1)):=by rw [List.length_eraseIdx_of_lt hi]; omega
 rw [hl,List.eraseIdx_eq_take_drop_succ]
 simpa [List.flatMap_append] using ho
end
end Go.Proofs.YtpgfldcoojfheaaGreatDoor
