/- append at a step of a region that draws: whatever the source is, nothing too. No program is named here. Blocks that are known whole, rounds of a loop over a function. Parts of a ship, and changes, in memory. The reference of layer 1: find, meet, stood. The reference of layer 1: the error of a part. Rows of a call's own, several at once, no two in one block: what an allocation and an append do to .. -/
import Derived.RangeFuncNested
import Derived.RangeFuncBound
import Derived.RangeFuncCalls
import Derived.RangeFuncLeaves
import Derived.RangeFuncWrites
import Derived.Shelf.Abstract
import Derived.Shelf.RegionOpen
import Derived.WalkKit
import Derived.OwnWalkIn
import Derived.TacticsInMore
import Derived.LoopNIn
import Derived.LoopIn
import Derived.WalkSmall
import Derived.Deep.RegionHeld3
import Derived.Deep.DeepCutAuto
import Derived.Test.YtpgfldcoojfheaaGreatDoorM0
set_option maxRecDepth 1000000
set_option maxHeartbeats 16000000
namespace Go.Proofs.YtpgfldcoojfheaaGreatDoor
open Go.RowKit
def Srcs (w : World) (size : Nat) (src : Value) (m : Nat) (news : List Value) : Prop :=
 (src = .slice none 0 0 ∧ m = 0 ∧ news = []) ∨ ∃ (ad : Addr) (c : Nat),src = .slice (some ad) m c ∧ news.length = m * size ∧ (∀ j u,news[j]? = some u → w.cell? (ad.add j) = some u) ∧ ∀ u ∈ news,u.oneCell' = true
theorem grownBy_refl (w : World) (r : Option Nat) : w.grownBy w r:=⟨rfl,rfl,rfl,Nat.le_refl _,fun _ _ _=>rfl⟩
theorem step_append_any {P : Program} {w : World} {ops : Array Oper} {o : Oper} {a : Act} {K : Act → World → Prop} {Q : Exit → Act → World → Prop} {E : Prop} (hgd : o.guard = none) (s x : Operand) (t : TypeId)
  (ho : o.op = .call { callee:=.builtin .append,args:=#[s,x],argTypes:=#[t,t] })
  (base : Nat) (e : TypeId) (i : TypeInfo) (z : Value) (size bytes : Nat) (ht : P.underlying t = some (.slice e)) (hi : P.info? e = some i) (hz : i.zero = some z)
  (hsize : i.size = size) (hby : i.bytes = bytes) (hzs : z.cells.size = size) (hsz : 0 < size)
  (v : Value) (n : Nat) (xs : List Value) (hs : a.eval s = v) (hown : w.ownsRow base e size v n xs)
  (src : Value) (m : Nat) (news : List Value) (hx : a.eval x = src) (hsrc : Srcs w size src m news)
  (h63 : n + m ≤ maxLen) (hbytes : (n + m) * bytes ≤ 140737488355328) (hbase : base ≤ w.heap.size)
  (h : ∀ v' w',w'.ownsRow base e size v' (n + m) (xs ++ news) → w.grownBy w' v.ownBlock → K (a.put o.dst v') w') :
  if Region.wanted o (yielded ops a.tmps) = true then Oper.wp P o a w K Q else E:=by
 have hw : Region.wanted o (yielded ops a.tmps) = true:=by simp [Region.wanted,hgd]
 rw [if_pos hw];rcases hsrc with ⟨rfl,rfl,rfl⟩ | ⟨ad,c,rfl,hl,hnews,h1⟩
 ·have hr:=run_append_owned_none (P:=P) w base t o.type e i size ht hi v n xs hown;unfold Oper.wp execOp;simp only [ho,resolve,invoke,builtin,Sem.run_bind,Sem.run_pure,Result.andThen_ok,List.map_toArray,List.map_cons,List.map_nil,hs,hx,hr];exact h v w (by simpa using hown) (grownBy_refl _ _)
 ·obtain ⟨v',w',hr,h2,h3,_,_⟩:=run_append_own_at (P:=P) w base t o.type e i z size bytes ht hi hz hsize hby hzs hsz v n xs hown ad m c news hl hnews h1 h63 hbytes hbase;unfold Oper.wp execOp;simp only [ho,resolve,invoke,builtin,Sem.run_bind,Sem.run_pure,Result.andThen_ok,List.map_toArray,List.map_cons,List.map_nil,hs,hx,hr];exact h v' w' h2 h3
end Go.Proofs.YtpgfldcoojfheaaGreatDoor
namespace Go.Proofs.YtpgfldcoojfheaaGreatDoor
open Go.RowKit Go.Shelf
section
variable {k : Nat}
def Blk (w : World) (g : Nat) (t : TypeId) (cs : Array Value) : Prop:=w.heap[g]? = some (.cells cs t (0,0))
section
variable {w w' : World} {g : Nat} {t : TypeId} {cs : Array Value}
theorem Blk.lt (h : Blk w g t cs) : g < w.heap.size:=by
 rcases Nat.lt_or_ge g w.heap.size with hlt | hge
 ·exact hlt
 ·unfold Blk at h; rw [Array.getElem?_eq_none hge] at h; cases h
theorem Blk.cell (h : Blk w g t cs) (i : Nat) : w.cell? ⟨g,i,none⟩ = cs[i]?:=by
 unfold Blk at h; simp [World.cell?,h]
theorem Blk.frozen (h : Blk w g t cs) (i : Nat) : w.frozen? ⟨g,i,none⟩ = false:=by
 unfold Blk at h;simp [World.frozen?,h]
theorem Blk.new (w : World) (t : TypeId) (cs : Array Value) : Blk (w.alloc (.cells cs t)) w.heap.size t cs:=by
 unfold Blk; exact World.alloc_heap_new w _
theorem Blk.alloc (h : Blk w g t cs) (o : Obj) : Blk (w.alloc o) g t cs:=(Below.heap_alloc w o g h.lt).trans h
theorem Blk.set_ (h : Blk w g t cs) (i : Nat) (u : Value) : Blk (w.setCell ⟨g,i,none⟩ u) g t (cs.setIfInBounds i u):=by
 unfold Blk at h ⊢;simp [World.setCell,Array.getElem?_modify,h]
theorem Blk.far (h : Blk w g t cs) {p : Addr} (hp : g ≠ p.block) (u : Value) : Blk (w.setCell p u) g t cs:=(Below.heap_setCell w p u g hp).trans h
theorem Blk.same (h : Blk w g t cs) (hs : w'.heap[g]? = w.heap[g]?) : Blk w' g t cs:=hs.trans h
theorem Blk.grown {row : Option Nat} (h : Blk w g t cs) (hb : w.grownBy w' row) (hg : some g ≠ row) : Blk w' g t cs:=(hb.block g h.lt hg).trans h
theorem own_ne {base : Nat} {e : TypeId} {size : Nat} {v : Value} {n : Nat} {xs : List Value} (h : w.ownsRow base e size v n xs) (hb : Blk w g t cs) (ht : t ≠ e) : some g ≠ v.ownBlock:=by
 intro e2;rcases h.2 with ⟨rfl,_⟩ | ⟨g',cap,cur,rfl,_,hg,_⟩
 ·cases e2
 ·simp only [Value.ownBlock,Option.some.injEq] at e2;subst e2;unfold Blk at hb;rw [hb] at hg;injection hg with hg
  injection hg with _ h2 _
  exact ht h2
end
theorem hdd (k : Nat) : (Fence.wide.depth.isSome = true → 1 ≤ k):=fun h=>by cases h
theorem below_putObj {B : Nat} (X : World) (hk : B ≤ k) (o : Obj) : Below B X (X.putObj k o) :=
 ⟨rfl,rfl,rfl,by simp [World.putObj],fun i hi=>World.putObj_heap_other (by omega)⟩
theorem cell_put {W : World} {o : Obj} (ho : W.heap[k]? = some o) (hc : o.isCells = false) (o' : Obj) (p : Addr) (hc2 : o'.isCells = false:=by rfl) : (W.putObj k o').cell? p = W.cell? p:=by
 rcases Decidable.em (p.block = k) with e | hne
 ·have h1 : (W.putObj k o').heap[p.block]? = some o':=by rw [e]; exact World.putObj_heap_same (Array.getElem?_eq_some_iff.1 ho).1
  have h2 : W.heap[p.block]? = some o:=by rw [e]; exact ho
  simp only [World.cell?,h1,h2];cases o <;> cases o' <;> simp_all [Obj.isCells]
 ·have e : (W.putObj k o').heap[p.block]? = W.heap[p.block]?:=World.putObj_heap_other (by omega)
  simp only [World.cell?,e]
theorem Blk.c2 {w : World} {g : Nat} {t : TypeId} {a0 a1 : Value} {l : List Value} (h : Blk w g t (a0::a1::l).toArray) : w.cell? ⟨g,0,none⟩ = some a0 ∧ w.cell? ⟨g,1,none⟩ = some a1:=⟨h.cell 0,h.cell 1⟩
theorem Blk.f2 {w : World} {g : Nat} {t : TypeId} {cs : Array Value} (h : Blk w g t cs) : w.frozen? ⟨g,0,none⟩ = false ∧ w.frozen? ⟨g,1,none⟩ = false:=⟨h.frozen 0,h.frozen 1⟩
theorem Blk.c3 {w : World} {g : Nat} {t : TypeId} {a0 a1 a2 : Value} {l : List Value} (h : Blk w g t (a0::a1::a2::l).toArray) : w.cell? ⟨g,0,none⟩ = some a0 ∧ w.cell? ⟨g,1,none⟩ = some a1 ∧ w.cell? ⟨g,2,none⟩ = some a2:=⟨h.cell 0,h.cell 1,h.cell 2⟩
theorem Blk.f3 {w : World} {g : Nat} {t : TypeId} {cs : Array Value} (h : Blk w g t cs) : w.frozen? ⟨g,0,none⟩ = false ∧ w.frozen? ⟨g,1,none⟩ = false ∧ w.frozen? ⟨g,2,none⟩ = false:=⟨h.frozen 0,h.frozen 1,h.frozen 2⟩
theorem Blk.c4 {w : World} {g : Nat} {t : TypeId} {a0 a1 a2 a3 : Value} {l : List Value} (h : Blk w g t (a0::a1::a2::a3::l).toArray) : w.cell? ⟨g,0,none⟩ = some a0 ∧ w.cell? ⟨g,1,none⟩ = some a1 ∧ w.cell? ⟨g,2,none⟩ = some a2 ∧ w.cell? ⟨g,3,none⟩ = some a3:=⟨h.cell 0,h.cell 1,h.cell 2,h.cell 3⟩
theorem Blk.f4 {w : World} {g : Nat} {t : TypeId} {cs : Array Value} (h : Blk w g t cs) : w.frozen? ⟨g,0,none⟩ = false ∧ w.frozen? ⟨g,1,none⟩ = false ∧ w.frozen? ⟨g,2,none⟩ = false ∧ w.frozen? ⟨g,3,none⟩ = false:=⟨h.frozen 0,h.frozen 1,h.frozen 2,h.frozen 3⟩
theorem Blk.c5 {w : World} {g : Nat} {t : TypeId} {a0 a1 a2 a3 a4 : Value} {l : List Value} (h : Blk w g t (a0::a1::a2::a3::a4::l).toArray) : w.cell? ⟨g,0,none⟩ = some a0 ∧ w.cell? ⟨g,1,none⟩ = some a1 ∧ w.cell? ⟨g,2,none⟩ = some a2 ∧ w.cell? ⟨g,3,none⟩ = some a3 ∧ w.cell? ⟨g,4,none⟩ = some a4:=⟨h.cell 0,h.cell 1,h.cell 2,h.cell 3,h.cell 4⟩
theorem Blk.f5 {w : World} {g : Nat} {t : TypeId} {cs : Array Value} (h : Blk w g t cs) : w.frozen? ⟨g,0,none⟩ = false ∧ w.frozen? ⟨g,1,none⟩ = false ∧ w.frozen? ⟨g,2,none⟩ = false ∧ w.frozen? ⟨g,3,none⟩ = false ∧ w.frozen? ⟨g,4,none⟩ = false:=⟨h.frozen 0,h.frozen 1,h.frozen 2,h.frozen 3,h.frozen 4⟩
theorem Blk.c6 {w : World} {g : Nat} {t : TypeId} {a0 a1 a2 a3 a4 a5 : Value} {l : List Value} (h : Blk w g t (a0::a1::a2::a3::a4::a5::l).toArray) : w.cell? ⟨g,0,none⟩ = some a0 ∧ w.cell? ⟨g,1,none⟩ = some a1 ∧ w.cell? ⟨g,2,none⟩ = some a2 ∧ w.cell? ⟨g,3,none⟩ = some a3 ∧ w.cell? ⟨g,4,none⟩ = some a4 ∧ w.cell? ⟨g,5,none⟩ = some a5:=⟨h.cell 0,h.cell 1,h.cell 2,h.cell 3,h.cell 4,h.cell 5⟩
theorem Blk.f6 {w : World} {g : Nat} {t : TypeId} {cs : Array Value} (h : Blk w g t cs) : w.frozen? ⟨g,0,none⟩ = false ∧ w.frozen? ⟨g,1,none⟩ = false ∧ w.frozen? ⟨g,2,none⟩ = false ∧ w.frozen? ⟨g,3,none⟩ = false ∧ w.frozen? ⟨g,4,none⟩ = false ∧ w.frozen? ⟨g,5,none⟩ = false:=⟨h.frozen 0,h.frozen 1,h.frozen 2,h.frozen 3,h.frozen 4,h.frozen 5⟩
theorem Blk.c7 {w : World} {g : Nat} {t : TypeId} {a0 a1 a2 a3 a4 a5 a6 : Value} {l : List Value} (h : Blk w g t (a0::a1::a2::a3::a4::a5::a6::l).toArray) : w.cell? ⟨g,0,none⟩ = some a0 ∧ w.cell? ⟨g,1,none⟩ = some a1 ∧ w.cell? ⟨g,2,none⟩ = some a2 ∧ w.cell? ⟨g,3,none⟩ = some a3 ∧ w.cell? ⟨g,4,none⟩ = some a4 ∧ w.cell? ⟨g,5,none⟩ = some a5 ∧ w.cell? ⟨g,6,none⟩ = some a6:=⟨h.cell 0,h.cell 1,h.cell 2,h.cell 3,h.cell 4,h.cell 5,h.cell 6⟩
theorem Blk.f7 {w : World} {g : Nat} {t : TypeId} {cs : Array Value} (h : Blk w g t cs) : w.frozen? ⟨g,0,none⟩ = false ∧ w.frozen? ⟨g,1,none⟩ = false ∧ w.frozen? ⟨g,2,none⟩ = false ∧ w.frozen? ⟨g,3,none⟩ = false ∧ w.frozen? ⟨g,4,none⟩ = false ∧ w.frozen? ⟨g,5,none⟩ = false ∧ w.frozen? ⟨g,6,none⟩ = false:=⟨h.frozen 0,h.frozen 1,h.frozen 2,h.frozen 3,h.frozen 4,h.frozen 5,h.frozen 6⟩
theorem Blk.c8 {w : World} {g : Nat} {t : TypeId} {a0 a1 a2 a3 a4 a5 a6 a7 : Value} {l : List Value} (h : Blk w g t (a0::a1::a2::a3::a4::a5::a6::a7::l).toArray) : w.cell? ⟨g,0,none⟩ = some a0 ∧ w.cell? ⟨g,1,none⟩ = some a1 ∧ w.cell? ⟨g,2,none⟩ = some a2 ∧ w.cell? ⟨g,3,none⟩ = some a3 ∧ w.cell? ⟨g,4,none⟩ = some a4 ∧ w.cell? ⟨g,5,none⟩ = some a5 ∧ w.cell? ⟨g,6,none⟩ = some a6 ∧ w.cell? ⟨g,7,none⟩ = some a7:=⟨h.cell 0,h.cell 1,h.cell 2,h.cell 3,h.cell 4,h.cell 5,h.cell 6,h.cell 7⟩
theorem Blk.f8 {w : World} {g : Nat} {t : TypeId} {cs : Array Value} (h : Blk w g t cs) : w.frozen? ⟨g,0,none⟩ = false ∧ w.frozen? ⟨g,1,none⟩ = false ∧ w.frozen? ⟨g,2,none⟩ = false ∧ w.frozen? ⟨g,3,none⟩ = false ∧ w.frozen? ⟨g,4,none⟩ = false ∧ w.frozen? ⟨g,5,none⟩ = false ∧ w.frozen? ⟨g,6,none⟩ = false ∧ w.frozen? ⟨g,7,none⟩ = false:=⟨h.frozen 0,h.frozen 1,h.frozen 2,h.frozen 3,h.frozen 4,h.frozen 5,h.frozen 6,h.frozen 7⟩
theorem Blk.c9 {w : World} {g : Nat} {t : TypeId} {a0 a1 a2 a3 a4 a5 a6 a7 a8 : Value} {l : List Value} (h : Blk w g t (a0::a1::a2::a3::a4::a5::a6::a7::a8::l).toArray) : w.cell? ⟨g,0,none⟩ = some a0 ∧ w.cell? ⟨g,1,none⟩ = some a1 ∧ w.cell? ⟨g,2,none⟩ = some a2 ∧ w.cell? ⟨g,3,none⟩ = some a3 ∧ w.cell? ⟨g,4,none⟩ = some a4 ∧ w.cell? ⟨g,5,none⟩ = some a5 ∧ w.cell? ⟨g,6,none⟩ = some a6 ∧ w.cell? ⟨g,7,none⟩ = some a7 ∧ w.cell? ⟨g,8,none⟩ = some a8:=⟨h.cell 0,h.cell 1,h.cell 2,h.cell 3,h.cell 4,h.cell 5,h.cell 6,h.cell 7,h.cell 8⟩
theorem Blk.f9 {w : World} {g : Nat} {t : TypeId} {cs : Array Value} (h : Blk w g t cs) : w.frozen? ⟨g,0,none⟩ = false ∧ w.frozen? ⟨g,1,none⟩ = false ∧ w.frozen? ⟨g,2,none⟩ = false ∧ w.frozen? ⟨g,3,none⟩ = false ∧ w.frozen? ⟨g,4,none⟩ = false ∧ w.frozen? ⟨g,5,none⟩ = false ∧ w.frozen? ⟨g,6,none⟩ = false ∧ w.frozen? ⟨g,7,none⟩ = false ∧ w.frozen? ⟨g,8,none⟩ = false:=⟨h.frozen 0,h.frozen 1,h.frozen 2,h.frozen 3,h.frozen 4,h.frozen 5,h.frozen 6,h.frozen 7,h.frozen 8⟩
theorem Blk.c10 {w : World} {g : Nat} {t : TypeId} {a0 a1 a2 a3 a4 a5 a6 a7 a8 a9 : Value} {l : List Value} (h : Blk w g t (a0::a1::a2::a3::a4::a5::a6::a7::a8::a9::l).toArray) : w.cell? ⟨g,0,none⟩ = some a0 ∧ w.cell? ⟨g,1,none⟩ = some a1 ∧ w.cell? ⟨g,2,none⟩ = some a2 ∧ w.cell? ⟨g,3,none⟩ = some a3 ∧ w.cell? ⟨g,4,none⟩ = some a4 ∧ w.cell? ⟨g,5,none⟩ = some a5 ∧ w.cell? ⟨g,6,none⟩ = some a6 ∧ w.cell? ⟨g,7,none⟩ = some a7 ∧ w.cell? ⟨g,8,none⟩ = some a8 ∧ w.cell? ⟨g,9,none⟩ = some a9:=⟨h.cell 0,h.cell 1,h.cell 2,h.cell 3,h.cell 4,h.cell 5,h.cell 6,h.cell 7,h.cell 8,h.cell 9⟩
theorem Blk.f10 {w : World} {g : Nat} {t : TypeId} {cs : Array Value} (h : Blk w g t cs) : w.frozen? ⟨g,0,none⟩ = false ∧ w.frozen? ⟨g,1,none⟩ = false ∧ w.frozen? ⟨g,2,none⟩ = false ∧ w.frozen? ⟨g,3,none⟩ = false ∧ w.frozen? ⟨g,4,none⟩ = false ∧ w.frozen? ⟨g,5,none⟩ = false ∧ w.frozen? ⟨g,6,none⟩ = false ∧ w.frozen? ⟨g,7,none⟩ = false ∧ w.frozen? ⟨g,8,none⟩ = false ∧ w.frozen? ⟨g,9,none⟩ = false:=⟨h.frozen 0,h.frozen 1,h.frozen 2,h.frozen 3,h.frozen 4,h.frozen 5,h.frozen 6,h.frozen 7,h.frozen 8,h.frozen 9⟩
end
end Go.Proofs.YtpgfldcoojfheaaGreatDoor
namespace Go.Proofs.YtpgfldcoojfheaaGreatDoor
open Go.RowKit
section
variable {i k : Nat} {s : ByteArray}
abbrev Rt (w : World) (v : Value) : Ending → World → Prop:=fun e w'=>e = .returned v ∧ Below w.heap.size w w'
structure HuM where
 p : HuP
 A : Option Addr
 cap : Nat
def encM (m : HuM) : List Value:=[.string m.p.name,iv m.p.kind,iv m.p.first,iv m.p.last,.slice m.A m.p.on.length m.cap,iv m.p.wlo,iv m.p.whi]
theorem encM_len : ∀ m,(encM m).length = 7:=fun _=>rfl
abbrev mV (m : HuM) : Value:=.agg #[.string m.p.name,iv m.p.kind,iv m.p.first,iv m.p.last,.slice m.A m.p.on.length m.cap,iv m.p.wlo,iv m.p.whi]
abbrev psOf (ms : List HuM) : List HuP:=ms.map HuM.p
structure MOk (w : World) (B : Nat) (m : HuM) : Prop where
 on : Rd1 .string w B m.A m.p.on
 le : m.p.on.length ≤ m.cap
 cm : m.cap ≤ maxLen
 nm : m.p.name.size ≤ maxLen
 ons : ∀ o ∈ m.p.on,o.size ≤ maxLen
 sz : m.p.on.length * 16 ≤ 140737488351232
structure MsRd (w : World) (B : Nat) (A : Option Addr) (ms : List HuM) : Prop where
 rd : RdN 7 encM w B A ms
 ok : ∀ m ∈ ms,MOk w B m
section
variable {w w' : World} {B B' : Nat} {A : Option Addr} {ms : List HuM} {m : HuM}
theorem MOk.below (h : MOk w B m) (hb : Below B' w w') (hB : B ≤ B') : MOk w' B m:=⟨h.on.below hb hB,h.le,h.cm,h.nm,h.ons,h.sz⟩
theorem MOk.more (h : MOk w B m) (hB : B ≤ B') : MOk w B' m:=⟨h.on.more hB,h.le,h.cm,h.nm,h.ons,h.sz⟩
theorem MsRd.below (h : MsRd w B A ms) (hb : Below B' w w') (hB : B ≤ B') : MsRd w' B A ms:=⟨h.rd.below hb hB,fun m hm=>(h.ok m hm).below hb hB⟩
theorem MsRd.more (h : MsRd w B A ms) (hB : B ≤ B') : MsRd w B' A ms:=⟨h.rd.more hB,fun m hm=>(h.ok m hm).more hB⟩
theorem MsRd.take (h : MsRd w B A ms) (n : Nat) : MsRd w B A (ms.take n):=⟨h.rd.take n,fun m hm=>h.ok m (List.mem_of_mem_take hm)⟩
theorem MsRd.nil : MsRd w B A []:=⟨RdN.nil,fun _ h=>by cases h⟩
theorem MsRd.at (h : MsRd w B A ms) (hx : ms[i]? = some m) :
  ∃ b off,A = some ⟨b,off,none⟩ ∧ b < B ∧ MOk w B m ∧ w.cell? ⟨b,off + i * 7,none⟩ = some (.string m.p.name) ∧ w.cell? ⟨b,off + i * 7 + 1,none⟩ = some (iv m.p.kind) ∧ w.cell? ⟨b,off + i * 7 + 2,none⟩ = some (iv m.p.first) ∧ w.cell? ⟨b,off + i * 7 + 3,none⟩ = some (iv m.p.last) ∧ w.cell? ⟨b,off + i * 7 + 4,none⟩ = some (.slice m.A m.p.on.length m.cap) ∧ w.cell? ⟨b,off + i * 7 + 5,none⟩ = some (iv m.p.wlo) ∧ w.cell? ⟨b,off + i * 7 + 6,none⟩ = some (iv m.p.whi):=by
 obtain ⟨b,off,e,hb,hc⟩:=h.rd i m hx;exact ⟨b,off,e,hb,h.ok m (List.mem_iff_getElem?.2 ⟨i,hx⟩),hc 0 _ rfl,hc 1 _ rfl,hc 2 _ rfl,hc 3 _ rfl,hc 4 _ rfl,hc 5 _ rfl,hc 6 _ rfl⟩
end
theorem ps_at {ms : List HuM} {m : HuM} (h : ms[i]? = some m) : (psOf ms)[i]? = some m.p:=by rw [List.getElem?_map,h]; rfl
theorem posP_found {l : List HuP} {p : HuP} (hk : l[k]? = some p) (hp : nmB s p = true) (hn : hasP (l.take k) s = false) : idxP l s = k ∧ posP l s = (k : Int) ∧ hasP l s = true:=by
 obtain ⟨hl,e⟩:=List.getElem?_eq_some_iff.1 hk;have hi : idxP l s = k:=by
  unfold idxP;rw [List.findIdx_eq hl];refine ⟨by rw [e]; exact hp,fun j hj=>?_⟩
  cases hb : nmB s l[j] with
  | false=>rfl
  | true =>
   exfalso;exact hasP_false.1 hn _ (List.mem_iff_getElem?.2 ⟨j,by rw [List.getElem?_take_of_lt hj]; exact List.getElem?_eq_getElem (by omega)⟩) (nmB_iff.1 hb)
 refine ⟨hi, ?_,hasP_iff.2 ⟨p,List.mem_iff_getElem?.2 ⟨k,hk⟩,nmB_iff.1 hp⟩⟩;unfold posP;rw [hi,if_pos hl]
theorem posP_none {l : List HuP} (hn : hasP l s = false) : posP l s = -1:=by
 unfold posP;rw [if_neg];intro h;obtain ⟨p,hp,e⟩:=idx_lt.1 h;exact hasP_false.1 hn p hp e
theorem hasP_snoc {l : List HuP} {p : HuP} (hk : l[k]? = some p) : hasP (l.take (k + 1)) s = (hasP (l.take k) s || nmB s p):=by
 unfold hasP;obtain ⟨h,rfl⟩:=List.getElem?_eq_some_iff.1 hk;rw [List.take_succ_eq_append_getElem h,List.any_append]; simp
theorem find_none_of {l : List HuP} (h : hasP l s = true) : ∃ y,l.find? (nmB s) = some y ∧ l[idxP l s]? = some y:=by
 cases hf : l.find? (nmB s) with
 | none =>
  obtain ⟨p,hp,e⟩:=hasP_iff.1 h;have:=List.find?_eq_none.1 hf p hp;rw [nmB_iff.2 e] at this;exact absurd rfl this
 | some y =>
  obtain ⟨j,rfl,hj,_⟩:=find_at hf;exact ⟨y,rfl,hj⟩
theorem nodup_iff (l : List ByteArray) : (l.map ByteArray.toList).Nodup ↔ ∀ k x,l[k]? = some x → oneOf (l.take k) x = false:=by
 unfold List.Nodup;rw [List.pairwise_map,List.pairwise_iff_getElem];constructor
 ·intro h k x hk;obtain ⟨hl,rfl⟩:=List.getElem?_eq_some_iff.1 hk;rw [Bool.eq_false_iff];intro ho;unfold oneOf at ho;rw [List.any_eq_true] at ho;obtain ⟨y,hy,e⟩:=ho;obtain ⟨j,hj⟩:=List.mem_iff_getElem?.1 hy;rw [List.getElem?_take] at hj;split at hj
  ·rename_i hjk;obtain ⟨hl2,rfl⟩:=List.getElem?_eq_some_iff.1 hj;exact h j k hl2 hl hjk (by simpa using e)
  ·cases hj
 ·intro h i j hi hj hij e;have:=h j l[j] (List.getElem?_eq_getElem hj);unfold oneOf at this;rw [List.any_eq_false] at this;exact this l[i] (List.mem_iff_getElem?.2 ⟨i,by rw [List.getElem?_take_of_lt hij]; exact List.getElem?_eq_getElem hi⟩) (by simpa using e)
end
section
variable {s : ByteArray}
theorem find61_any (A : Option Addr) (ms : List HuM) (B cap : Nat) (s : ByteArray) (w : World) (hm : ms.length ≤ maxLen) (H : MsRd w B A ms) :
  Calls Tryz.prog 61 #[.slice A ms.length cap,.string s] w fun e w'=>e = .returned (iv (posP (psOf ms) s)) ∧ w = w':=by
 unfold maxLen at hm;have HH:=Lib.hid H;clear H;go_enter Tryz.func61,Tryz.ntmps61
 go_wp2
 go_loop [5] (fun i=>∃ k : Nat,k ≤ ms.length ∧ i = .int .i64 k ∧ hasP ((psOf ms).take k) s = false) (fun i=>ms.length - (intOf i).toNat)
 case atStart=>exact ⟨0,Nat.zero_le _,rfl,by simp [hasP]⟩
 case round =>
  obtain ⟨k,hk,rfl,hn⟩:=hrel;have HN:=Lib.hid hn;clear hn;by_cases hlt : k < ms.length
  ·obtain ⟨m,hx⟩ : ∃ x,ms[k]? = some x:=⟨_,List.getElem?_eq_getElem hlt⟩;obtain ⟨b,off,rfl,_,_,c0,_⟩:=HH.out.at hx;have HX:=Lib.hid hx;clear hx HH;cases hp : (m.p.name.toList == s.toList)
   ·have HP:=Lib.hid hp;go_wp2
    go_round
    case rel=>exact ⟨k + 1,by omega,by go_num,by rw [hasP_snoc (ps_at HX.out),HN.out]; exact HP.out⟩
    case measure=>simp [intOf]; omega
   ·have HP:=Lib.hid hp;go_wp2
    go_ret
    exact ⟨ret_int (posP_found (ps_at HX.out) HP.out HN.out).2.1.symm,rfl⟩
  ·go_wp2
   go_ret
   have hn:=HN.out;rw [List.take_of_length_le (by simp; omega)] at hn
   exact ⟨ret_int (posP_none hn).symm,rfl⟩
def meetM (a b : HuP) : Bool:=decide (max a.first b.first ≤ min a.last b.last)
theorem meetM_eq {a b : HuP} (ha : a.first ≤ a.last) (hb : b.first ≤ b.last) : meetM a b = meetB a b:=by
 unfold meetM meetB;rw [Bool.eq_iff_iff];simp;omega
theorem meet63_any (m n : HuM) (w : World) : Calls Tryz.prog 63 #[mV m,mV n] w (Rt w (.bool (meetM m.p n.p))):=by
 obtain ⟨⟨nm,kd,f1,l1,on,wl,wh⟩,A,c⟩:=m;obtain ⟨⟨nm2,kd2,f2,l2,on2,wl2,wh2⟩,A2,c2⟩:=n;go_enter Tryz.func63,Tryz.ntmps63
 go_wp2
 all_goals
  go_ret
  exact ⟨ret_bool (by unfold meetM; rw [Bool.eq_iff_iff]; simp; omega),belowA (belowA (belowR _) _) _⟩
def stoodB (l : List HuP) (s : ByteArray) : Bool:=l.any fun q=>standsB q s
theorem stoodB_yes {l : List HuP} {q : HuP} (hq : q ∈ l) (h : standsB q s = true) : stoodB l s = true:=List.any_eq_true.2 ⟨q,hq,h⟩
theorem stoodB_no {l : List HuP} : stoodB l s = false ↔ ∀ q ∈ l,standsB q s = false:=by
 unfold stoodB;rw [List.any_eq_false];exact ⟨fun h q hq=>by simpa using h q hq,fun h q hq=>by simp [h q hq]⟩
theorem stood64_any (A : Option Addr) (ms : List HuM) (B cap : Nat) (s : ByteArray) (w : World) (hm : ms.length ≤ maxLen) (H : MsRd w B A ms) :
  Calls Tryz.prog 64 #[.slice A ms.length cap,.string s] w fun e w'=>e = .returned (.bool (stoodB (psOf ms) s)) ∧ w = w':=by
 unfold maxLen at hm;have HH:=Lib.hid H;clear H;go_enter Tryz.func64,Tryz.ntmps64
 go_wp2
 go_loop [5] (fun i=>∃ k : Nat,k ≤ ms.length ∧ i = .int .i64 k ∧ ∀ q ∈ (psOf ms).take k,standsB q s = false) (fun i=>ms.length - (intOf i).toNat)
 case atStart=>exact ⟨0,Nat.zero_le _,rfl,by simp⟩
 case round =>
  obtain ⟨k,hk,rfl,hn⟩:=hrel;have HN:=Lib.hid hn;clear hn;by_cases hlt : k < ms.length
  ·obtain ⟨m,hx⟩ : ∃ x,ms[k]? = some x:=⟨_,List.getElem?_eq_getElem hlt⟩;obtain ⟨b,off,rfl,_,ho,_,_,_,_,c4,_⟩:=HH.out.at hx;have HX:=Lib.hid hx;have HO:=Lib.hid (place_any m.A m.p.on B m.cap s w (Nat.le_trans ho.le ho.cm) ho.on);have hps : ∀ r : Int,decide (0 ≤ r) = oneOf m.p.on s → decide (0 ≤ r) = standsB m.p s:=fun _ h=>h
   have HPS:=Lib.hid hps;clear hx HH ho hps;go_wp2_with fail
   refine HO.out.mono ?_;rintro e w' ⟨r,rfl,hr,rfl⟩;have hr2:=HPS.out r hr;clear hr;obtain ⟨bb,hbb⟩ : ∃ b,standsB m.p s = b:=⟨_,rfl⟩;have HB:=Lib.hid hbb;rw [hbb] at hr2;clear hbb;cases bb
   ·have hr3 : ¬ 0 ≤ r:=by simpa using hr2
    clear hr2;go_wp2_with fail
    go_round
    case rel =>
     refine ⟨k + 1,by omega,by go_num,fun q hq=>?_⟩
     rw [List.take_add_one,ps_at HX.out] at hq;simp only [List.mem_append,Option.toList_some,List.mem_singleton] at hq;rcases hq with hq | rfl
     ·exact HN.out q hq
     ·exact HB.out
    case measure=>simp [intOf]; omega
   ·have hr3 : 0 ≤ r:=by simpa using hr2
    clear hr2;go_wp2_with fail
    go_ret
    exact ⟨ret_bool (stoodB_yes (List.mem_iff_getElem?.2 ⟨k,ps_at HX.out⟩) HB.out).symm,rfl⟩
  ·go_wp2
   go_ret
   have hn:=HN.out;rw [List.take_of_length_le (by simp; omega)] at hn
   exact ⟨ret_bool (stoodB_no.2 hn).symm,rfl⟩
def placeI (l : List ByteArray) (s : ByteArray) : Int:=if oneOf l s then (l.findIdx (fun o=>eqS o s) : Int) else -1
theorem placeI_neg {l : List ByteArray} : placeI l s < 0 ↔ oneOf l s = false:=by
 unfold placeI;split
 ·rename_i h;rw [h];exact ⟨fun h0=>by omega,fun h0=>by cases h0⟩
 ·rename_i h;exact ⟨fun _=>by simpa using h,fun _=>by omega⟩
theorem placeI_found {l : List ByteArray} {x : ByteArray} {k : Nat} (hk : l[k]? = some x) (hp : (x.toList == s.toList) = true) (hn : oneOf (l.take k) s = false) : placeI l s = (k : Int):=by
 obtain ⟨hl,e⟩:=List.getElem?_eq_some_iff.1 hk;have hi : l.findIdx (fun o=>eqS o s) = k:=by
  rw [List.findIdx_eq hl];refine ⟨by rw [e]; exact hp,fun j hj=>?_⟩
  unfold oneOf at hn;rw [List.any_eq_false] at hn;have:=hn l[j] (List.mem_iff_getElem?.2 ⟨j,by rw [List.getElem?_take_of_lt hj]; exact List.getElem?_eq_getElem (by omega)⟩)
  simpa [eqS] using this
 unfold placeI;rw [if_pos (oneOf_yes hk hp),hi]
theorem place62v_any (A : Option Addr) (l : List ByteArray) (B cap : Nat) (s : ByteArray) (w : World) (hm : l.length ≤ maxLen) (hR : Rd1 .string w B A l) :
  Calls Tryz.prog 62 #[.slice A l.length cap,.string s] w fun e w'=>e = .returned (iv (placeI l s)) ∧ w' = w:=by
 unfold maxLen at hm;go_enter Tryz.func62,Tryz.ntmps62
 go_wp2
 go_loop [5] (fun i=>∃ k : Nat,k ≤ l.length ∧ i = .int .i64 k ∧ oneOf (l.take k) s = false) (fun i=>l.length - (intOf i).toNat)
 case atStart=>exact ⟨0,Nat.zero_le _,rfl,by simp [oneOf]⟩
 case round =>
  obtain ⟨k,hk,rfl,hn⟩:=hrel;have HN:=Lib.hid hn;clear hn;by_cases hlt : k < l.length
  ·obtain ⟨x,hx⟩ : ∃ x,l[k]? = some x:=⟨_,List.getElem?_eq_getElem hlt⟩;obtain ⟨b,off,rfl,_,hck⟩:=hR k x hx;have HX:=Lib.hid hx;clear hx;cases hp : (x.toList == s.toList)
   ·have HP:=Lib.hid hp;go_wp2
    go_round
    case rel=>exact ⟨k + 1,by omega,by go_num,by rw [oneOf_snoc _ _ _ _ HX.out,HN.out,HP.out]; rfl⟩
    case measure=>simp [intOf]; omega
   ·have HP:=Lib.hid hp;go_wp2
    go_ret
    exact ⟨ret_int (placeI_found HX.out HP.out HN.out).symm,rfl⟩
  ·go_wp2
   go_ret
   have hn:=HN.out;rw [List.take_of_length_le (by omega)] at hn
   exact ⟨ret_int (by unfold placeI; rw [hn]; rfl),rfl⟩
end
section
variable {w w' : World}
theorem Lq {p : Prop} (h : p) : Hid p:=h
theorem ex {α : Type} (x : α) : ∃ y,x = y:=⟨x,rfl⟩
abbrev BW (a w : World) : Prop:=Below a.heap.size a w
def ErrIff (P : Prop) (w : World) (e : Ending) (w' : World) : Prop:=∃ r : Int,e = .returned (iv r) ∧ (r = 0 ↔ P) ∧ Below w.heap.size w w'
theorem errNo {P : Prop} {r : Int} (h0 : r ≠ 0) (hP : ¬ P) (hb : Below w.heap.size w w') : ErrIff P w (.returned (iv r)) w':=⟨r,rfl,⟨fun h=>absurd h h0,fun h=>absurd h hP⟩,hb⟩
theorem errOk {P : Prop} (hP : P) (hb : Below w.heap.size w w') : ErrIff P w (.returned (iv 0)) w':=⟨0,rfl,⟨fun _=>hP,fun _=>rfl⟩,hb⟩
theorem mBox (w : World) (m : HuM) : ∃ W1,w.alloc (.cells #[.string m.p.name,iv m.p.kind,iv m.p.first,iv m.p.last,.slice m.A m.p.on.length m.cap,iv m.p.wlo,iv m.p.whi] 47) = W1 ∧ BW w W1 ∧ W1.heap.size = w.heap.size + 1 ∧ Blk W1 w.heap.size 47 #[.string m.p.name,iv m.p.kind,iv m.p.first,iv m.p.last,.slice m.A m.p.on.length m.cap,iv m.p.wlo,iv m.p.whi] :=
 ⟨_,rfl,belowA (belowR _) _,by simp,Blk.new w 47 _⟩
theorem Blk.keep {W W' : World} {g : Nat} {t : TypeId} {cs : Array Value} (h : Blk W g t cs) (hb : BW W W') : Blk W' g t cs:=h.same (hb.block _ h.lt)
theorem undrew0 (h : Below w.drew.heap.size w.drew w') : Below w.heap.size w w':=⟨h.os,h.tape,h.output,h.size,h.block⟩
theorem belowDr {B : Nat} {a : World} (h : Below B a w) : Below B a w.drew:=⟨h.os,h.tape,h.output,h.size,h.block⟩
theorem part_parts {name : ByteArray} {kind first last wlo whi r2 : Int} {on : List ByteArray} {bs os : List HuP} (k1 : nameB name = true) (k2 : posP os name = r2) (hr2 : ¬ 0 ≤ r2) (k4 : inB 1 5 kind = true) (k5 : inB 0 40 first = true) (k6 : inB 0 40 last = true) (k3 : rangeE 1 1000000 wlo whi = 0) (h8 : first ≤ last) :
  PartOk ⟨name,kind,first,last,on,wlo,whi⟩ bs os ↔ (∀ o ∈ on,hasP bs o = true) ∧ (∀ k x,on[k]? = some x → oneOf (on.take k) x = false) ∧ (∀ o ∈ on,∀ y,bs[idxP bs o]? = some y → meetB ⟨name,kind,first,last,on,wlo,whi⟩ y = true):=by
 have hr : 1 ≤ wlo ∧ wlo ≤ whi ∧ whi ≤ 1000000:=by
  unfold rangeE at k3;split at k3
  ·rename_i hi;rw [Bool.and_eq_true] at hi;have:=inB_t hi.1;have:=inB_t hi.2;split at k3
   ·cases k3
   ·omega
  ·cases k3
 have hn : hasP os name = false:=posP_neg.1 (by omega)
 constructor
 ·intro h;refine ⟨fun o ho=>?_,(nodup_iff on).1 h.dup,fun o ho y hy=>?_⟩
  ·obtain ⟨y,hy,_⟩:=h.on o ho;exact hasP_iff.2 ⟨y,List.mem_of_find?_eq_some hy,nmB_iff.1 (List.find?_some hy)⟩
  ·obtain ⟨z,hz,hm⟩:=h.on o ho;obtain ⟨j,rfl,hj,_⟩:=find_at hz;rw [hj] at hy;injection hy with hy
   exact hy ▸ hm
 ·rintro ⟨h1,h2,h3⟩;refine ⟨k1,hasP_false.1 hn,inB_t k4,⟨(inB_t k5).1,h8,(inB_t k6).2⟩,hr,fun o ho=>?_,(nodup_iff on).2 h2⟩
  obtain ⟨y,hy,hy2⟩:=find_none_of (h1 o ho);exact ⟨y,hy,h3 o ho y hy2⟩
theorem part13_any (m : HuM) (bs os : List HuM) (A A' : Option Addr) (B cb co : Nat) (w : World) (hB : B ≤ w.heap.size) (hM : MOk w B m) (H : MsRd w B A bs) (H' : MsRd w B A' os) (hbl : bs.length ≤ cb) (hcb : cb ≤ maxLen) (hol : os.length ≤ maxLen) (hv : ∀ b ∈ bs,b.p.first ≤ b.p.last) :
  Calls Tryz.prog 13 #[mV m,.slice A bs.length cb,.slice A' os.length co] w (ErrIff (PartOk m.p (psOf bs) (psOf os)) w):=by
 obtain ⟨W1,hW1,hb1,hz1,hq⟩:=mBox w m;have HM1:=Lq (hM.below hb1 hB);have HH1:=Lq (H.below hb1 hB);have HO1:=Lq (H'.below hb1 hB);have HV:=Lq hv;clear hM H H' hv;obtain ⟨⟨name,kind,first,last,on,wlo,whi⟩,Ao,ca⟩:=m;have HB1:=Lq hb1;have HC : Hid (∀ W,BW W1 W → W.cell? ⟨w.heap.size,0,none⟩ = some (.string name) ∧ W.cell? ⟨w.heap.size,1,none⟩ = some (iv kind) ∧ W.cell? ⟨w.heap.size,2,none⟩ = some (iv first) ∧ W.cell? ⟨w.heap.size,3,none⟩ = some (iv last) ∧ W.cell? ⟨w.heap.size,4,none⟩ = some (.slice Ao on.length ca) ∧ W.cell? ⟨w.heap.size,5,none⟩ = some (iv wlo) ∧ W.cell? ⟨w.heap.size,6,none⟩ = some (iv whi) ∧ w.heap.size < W.heap.size):=Lq fun W hb=>have k:=hq.keep hb; ⟨k.cell 0,k.cell 1,k.cell 2,k.cell 3,k.cell 4,k.cell 5,k.cell 6,k.lt⟩
 obtain ⟨b1,h1⟩:=ex (nameB name);have HN : Hid (∀ W,Calls Tryz.prog 60 #[.string name] W (Rt W (.bool b1))):=Lq fun W=>h1 ▸ refName_any name W HM1.out.nm
 obtain ⟨r2,h2⟩:=ex (posP (psOf os) name);have HF : Hid (∀ W,BW W1 W → Calls Tryz.prog 61 #[.slice A' os.length co,.string name] W fun e w'=>e = .returned (iv r2) ∧ W = w'):=Lq fun W hb=>h2 ▸ find61_any A' os B co name W hol (HO1.out.below hb (by omega))
 obtain ⟨re,h3⟩:=ex (rangeE 1 1000000 wlo whi);have HR : Hid (∀ W,Calls Tryz.prog 18 #[.agg #[iv wlo,iv whi],iv 1,iv 1000000] W (Rt W (iv re))):=Lq fun W=>h3 ▸ range_any 1 1000000 wlo whi W
 obtain ⟨b4,h4⟩:=ex (inB 1 5 kind);obtain ⟨b5,h5⟩:=ex (inB 0 40 first);obtain ⟨b6,h6⟩:=ex (inB 0 40 last);have HI4 : Hid (∀ W,Calls Tryz.prog 14 #[iv kind,iv 1,iv 5] W fun e w'=>e = .returned (.bool b4) ∧ W = w'):=Lq fun W=>h4 ▸ within_any kind 1 5 W
 have HI5 : Hid (∀ W,Calls Tryz.prog 14 #[iv first,iv 0,iv 40] W fun e w'=>e = .returned (.bool b5) ∧ W = w'):=Lq fun W=>h5 ▸ within_any first 0 40 W
 have HI6 : Hid (∀ W,Calls Tryz.prog 14 #[iv last,iv 0,iv 40] W fun e w'=>e = .returned (.bool b6) ∧ W = w'):=Lq fun W=>h6 ▸ within_any last 0 40 W
 have K1:=Lq h1;have K2:=Lq h2;have K3:=Lq h3;have K4:=Lq h4;have K5:=Lq h5;have K6:=Lq h6;clear h1 h2 h3 h4 h5 h6 hq hb1;have hon : on.length ≤ 9223372036854775807:=by have:=HM1.out.le; have:=HM1.out.cm; simp only [maxLen] at *; omega
 obtain ⟨p0,p1,p2,p3,p4,p5,p6,hlw⟩:=HC.out _ (belowR W1);go_enter Tryz.func13,Tryz.ntmps13
 go_wp2_with fail
 refine (HN.out _).mono ?_;rintro e w1 ⟨rfl,hb⟩;have HB2:=Lq hb;clear hb hW1 p0 p1 p2 p3 p4 p5 p6 hlw HN;obtain ⟨p0,p1,p2,p3,p4,p5,p6,hlw⟩:=HC.out _ HB2.out;cases b1 with
 | false =>
  go_wp2_with fail
  go_ret
  exact errNo (by decide) (fun h=>by have:=h.nm; rw [K1.out] at this; cases this) (belowT HB1.out HB2.out)
 | true =>
  go_wp2_with fail
  refine (HF.out _ HB2.out).mono ?_;rintro e w' ⟨rfl,rfl⟩;by_cases hr2 : 0 ≤ r2
  ·go_wp2_with fail
   go_ret
   refine errNo (by decide) (fun h=>?_) (belowT HB1.out HB2.out)
   have:=(posP_neg (l:=psOf os) (s:=name)).2 (hasP_false.2 h.new);rw [K2.out] at this;omega
  ·go_wp2_with fail
   refine (HR.out _).mono ?_;rintro e w2 ⟨rfl,hb⟩;have HB3:=Lq (belowT HB2.out hb);clear hb p0 p1 p2 p3 p4 p5 p6 hlw HR HF;obtain ⟨p0,p1,p2,p3,p4,p5,p6,hlw⟩:=HC.out _ HB3.out;have HBX:=Lq (belowT HB1.out HB3.out);cases b4 with
   | false =>
    go_wp2_with (go_at_call 14; refine (HI4.out _).mono ?_; rintro e w' ⟨rfl,rfl⟩)
    go_ret
    exact errNo (by decide) (fun h=>by have:=K4.out; have h9:=inB_mk h.kind.1 h.kind.2; simp only at h9; rw [this] at h9; cases h9) HBX.out
   | true =>
    cases b5 with
    | false =>
     go_wp2_with (first | (go_at_call 14; ((with_reducible refine (HI4.out _).mono ?_); rintro e w' ⟨rfl,rfl⟩)) | (go_at_call 14; ((with_reducible refine (HI5.out _).mono ?_); rintro e w' ⟨rfl,rfl⟩)))
     go_ret
     exact errNo (by decide) (fun h=>by have:=K5.out; have h9:=inB_mk h.fr.1 (Int.le_trans h.fr.2.1 h.fr.2.2); simp only at h9; rw [this] at h9; cases h9) HBX.out
    | true =>
     cases b6 with
     | false =>
      go_wp2_with (first | (go_at_call 14; ((with_reducible refine (HI4.out _).mono ?_); rintro e w' ⟨rfl,rfl⟩)) | (go_at_call 14; ((with_reducible refine (HI5.out _).mono ?_); rintro e w' ⟨rfl,rfl⟩)) | (go_at_call 14; ((with_reducible refine (HI6.out _).mono ?_); rintro e w' ⟨rfl,rfl⟩)))
      go_ret
      exact errNo (by decide) (fun h=>by have:=K6.out; have h9:=inB_mk (Int.le_trans h.fr.1 h.fr.2.1) h.fr.2.2; simp only at h9; rw [this] at h9; cases h9) HBX.out
     | true =>
      by_cases h7 : re = 7
      ·subst h7;go_wp2_with (first | (go_at_call 14; ((with_reducible refine (HI4.out _).mono ?_); rintro e w' ⟨rfl,rfl⟩)) | (go_at_call 14; ((with_reducible refine (HI5.out _).mono ?_); rintro e w' ⟨rfl,rfl⟩)) | (go_at_call 14; ((with_reducible refine (HI6.out _).mono ?_); rintro e w' ⟨rfl,rfl⟩)))
       go_ret
       exact errNo (by decide) (fun h=>by have:=K3.out; rw [rangeE_ok (by rw [inB_mk h.wt.1 (Int.le_trans h.wt.2.1 h.wt.2.2),inB_mk (Int.le_trans h.wt.1 h.wt.2.1) h.wt.2.2]; rfl) h.wt.2.1] at this; cases this) HBX.out
      ·have h7b : (re == 7) = false:=by simpa using h7
       by_cases h8 : last < first
       ·go_wp2_with (first | (go_at_call 14; ((with_reducible refine (HI4.out _).mono ?_); rintro e w' ⟨rfl,rfl⟩)) | (go_at_call 14; ((with_reducible refine (HI5.out _).mono ?_); rintro e w' ⟨rfl,rfl⟩)) | (go_at_call 14; ((with_reducible refine (HI6.out _).mono ?_); rintro e w' ⟨rfl,rfl⟩)))
        go_ret
        exact errNo (by decide) (fun h=>by have:=h.fr.2.1; simp only at this; omega) HBX.out
       ·have h8b : ¬ first > last:=by omega
        by_cases h9 : re = 0
        ·subst h9;go_wp2_with (first | (go_at_call 14; ((with_reducible refine (HI4.out _).mono ?_); rintro e w' ⟨rfl,rfl⟩)) | (go_at_call 14; ((with_reducible refine (HI5.out _).mono ?_); rintro e w' ⟨rfl,rfl⟩)) | (go_at_call 14; ((with_reducible refine (HI6.out _).mono ?_); rintro e w' ⟨rfl,rfl⟩)))
         have HP : Hid (PartOk ⟨name,kind,first,last,on,wlo,whi⟩ (psOf bs) (psOf os) ↔ (∀ o ∈ on,hasP (psOf bs) o = true) ∧ (∀ k x,on[k]? = some x → oneOf (on.take k) x = false) ∧ (∀ o ∈ on,∀ y,(psOf bs)[idxP (psOf bs) o]? = some y → meetB ⟨name,kind,first,last,on,wlo,whi⟩ y = true)):=Lq (part_parts K1.out K2.out (by omega) K4.out K5.out K6.out K3.out (by omega))
         clear K1 K2 K3 K4 K5 K6 HI4 HI5 HI6 h7;go_loop [8] (fun i=>∃ k : Nat,k ≤ on.length ∧ i = iv k ∧ ∀ o ∈ on.take k,hasP (psOf bs) o = true) (fun i=>on.length - (intOf i).toNat)
         case atStart=>exact ⟨0,Nat.zero_le _,rfl,by simp⟩
         case round =>
          obtain ⟨k,hk,rfl,hn⟩:=hrel;have HN1:=Lq hn;clear hn;by_cases hlt : k < on.length
          ·obtain ⟨o,hx⟩ : ∃ x,on[k]? = some x:=⟨_,List.getElem?_eq_getElem hlt⟩;obtain ⟨ob,oo,rfl,_,hck⟩:=(HM1.out.on.below HB3.out (by omega)) k o hx
           have HX:=Lq hx;obtain ⟨bo,hbo⟩:=ex (hasP (psOf bs) o);have HBO:=Lq hbo;obtain ⟨r3,h3⟩:=ex (posP (psOf bs) o);have HF3 : Hid (Calls Tryz.prog 61 #[.slice A bs.length cb,.string o] w2 fun e w'=>e = .returned (iv r3) ∧ w2 = w'):=Lq (h3 ▸ find61_any A bs B cb o w2 (Nat.le_trans hbl hcb) (HH1.out.below HB3.out (by omega)))
           have hneg : r3 < 0 ↔ bo = false:=by rw [← h3,← hbo]; exact posP_neg
           clear hx h3 hbo;cases bo
           ·have hr3 : r3 < 0:=hneg.2 rfl;clear hneg;go_wp2_with (go_at_call 61; refine HF3.out.mono ?_; rintro e w' ⟨rfl,rfl⟩)
            go_ret
            refine errNo (by decide) (fun h=>?_) HBX.out
            have:=(HP.out.1 h).1 o (List.mem_iff_getElem?.2 ⟨k,HX.out⟩);rw [HBO.out] at this;cases this
           ·have hr3 : ¬ r3 < 0:=fun h=>by have:=hneg.1 h; cases this
            clear hneg;go_wp2_with (go_at_call 61; refine HF3.out.mono ?_; rintro e w' ⟨rfl,rfl⟩)
            go_round
            case rel =>
             refine ⟨k + 1,by omega,by go_num,fun o2 ho=>?_⟩
             rw [List.take_add_one,HX.out] at ho;simp only [List.mem_append,Option.toList_some,List.mem_singleton] at ho;rcases ho with ho | rfl
             ·exact HN1.out o2 ho
             ·exact HBO.out
            case measure=>simp [intOf]; omega
          ·have HA1 : Hid (∀ o ∈ on,hasP (psOf bs) o = true):=Lq (by have:=HN1.out; rw [List.take_of_length_le (by omega)] at this; exact this)
           clear HN1;go_wp2_with fail
           go_loopw [9] (fun i wr=>∃ k : Nat,k ≤ on.length ∧ i = iv k ∧ Hid (∀ j x,j < k → on[j]? = some x → oneOf (on.take j) x = false) ∧ Hid (BW W1 wr)) (fun i _=>on.length - (intOf i).toNat)
           case atStart=>exact ⟨0,Nat.zero_le _,rfl,Lq (fun j x h=>by omega),HB3⟩
           case round =>
            clear p0 p1 p2 p3 p4 p5 p6 hlw;obtain ⟨k,hk,rfl,HN2,HBR⟩:=hrel;obtain ⟨p0,p1,p2,p3,p4,p5,p6,hlw⟩:=HC.out _ HBR.out;by_cases hlt : k < on.length
            ·obtain ⟨o,hx⟩ : ∃ x,on[k]? = some x:=⟨_,List.getElem?_eq_getElem hlt⟩;obtain ⟨ob,oo,rfl,_,hck⟩:=(HM1.out.on.below HBR.out (by omega)) k o hx
             have HX:=Lq hx;obtain ⟨bo,hbo⟩:=ex (oneOf (on.take k) o);have HBO:=Lq hbo;obtain ⟨r3,h3⟩:=ex (placeI (on.take k) o);have hle : (on.take k).length = k:=by rw [List.length_take]; omega
             have HF3 : Hid (∀ W,BW W1 W → Calls Tryz.prog 62 #[.slice (some ⟨ob,oo,none⟩) k ca,.string o] W fun e w'=>e = .returned (iv r3) ∧ w' = W):=Lq fun W hb=>by
              have:=place62v_any (some ⟨ob,oo,none⟩) (on.take k) B ca o W (by rw [hle]; simp only [maxLen]; omega) ((HM1.out.on.below hb (by omega)).take k)
              rw [hle,h3] at this;exact this
             have hneg : r3 < 0 ↔ bo = false:=by rw [← h3,← hbo]; exact placeI_neg
             have hkc : k ≤ ca:=Nat.le_trans hk HM1.out.le;have hca : ca ≤ 9223372036854775807:=by have:=HM1.out.cm; simp only [maxLen] at this; omega
             clear hx h3 hbo hle;cases bo
             ·have hr3 : r3 < 0:=hneg.2 rfl;clear hneg;go_wp2_with fail
              go_quiet ((go_at_call 62; exact Calls.quiet_of_same (HF3.out _ (belowN HBR.out _))))
              go_wp2_with fail
              go_roundw
              case rel =>
               refine ⟨k + 1,by omega,by go_num,Lq (fun j x hj hx=>?_),Lq (belowN HBR.out _)⟩
               rcases Nat.lt_or_ge j k with hjk | hjk
               ·exact HN2.out j x hjk hx
               ·obtain rfl : j = k:=by omega
                rw [HX.out] at hx;injection hx with hx
                exact hx ▸ HBO.out
              case measure=>simp [intOf]; omega
             ·have hr3 : ¬ r3 < 0:=fun h=>by have:=hneg.1 h; cases this
              clear hneg;go_wp2_with fail
              go_quiet ((go_at_call 62; exact Calls.quiet_of_same (HF3.out _ (belowN HBR.out _))))
              go_wp2_with fail
              go_ret
              refine errNo (by decide) (fun h=>?_) (belowT HB1.out (belowN HBR.out _))
              have:=(HP.out.1 h).2.1 k o HX.out;rw [HBO.out] at this;cases this
            ·have HA2 : Hid (∀ k x,on[k]? = some x → oneOf (on.take k) x = false):=Lq (fun j x hx=>HN2.out j x (by have:=(List.getElem?_eq_some_iff.1 hx).1; omega) hx)
             clear HN2;go_wp2_with fail
             have HFF : first ≤ last:=by omega
             clear hr2 h7b h8 h8b;go_loopw [10] (fun i wr=>∃ k : Nat,k ≤ on.length ∧ i = iv k ∧ Hid (∀ o ∈ on.take k,∀ y,(psOf bs)[idxP (psOf bs) o]? = some y → meetB ⟨name,kind,first,last,on,wlo,whi⟩ y = true) ∧ Hid (BW W1 wr)) (fun i _=>on.length - (intOf i).toNat)
             case atStart=>exact ⟨0,Nat.zero_le _,rfl,Lq (by simp),HBR⟩
             case round =>
              clear p0 p1 p2 p3 p4 p5 p6 hlw HBR;obtain ⟨k,hk,rfl,HN3,HBR⟩:=hrel;obtain ⟨p0,p1,p2,p3,p4,p5,p6,hlw⟩:=HC.out _ HBR.out;by_cases hlt : k < on.length
              ·obtain ⟨o,hx⟩ : ∃ x,on[k]? = some x:=⟨_,List.getElem?_eq_getElem hlt⟩;obtain ⟨ob,oo,rfl,_,hck⟩:=(HM1.out.on.below HBR.out (by omega)) k o hx
               have hho:=HA1.out o (List.mem_iff_getElem?.2 ⟨k,hx⟩);obtain ⟨hp1,hjl,yp,hy,_⟩:=posP_at hho;obtain ⟨j,hj⟩:=ex (idxP (psOf bs) o);rw [hj] at hp1 hjl hy;have hjl2 : j < bs.length:=by simpa using hjl
               obtain ⟨y,hym⟩ : ∃ y,bs[j]? = some y:=⟨_,List.getElem?_eq_getElem hjl2⟩;have hyp : yp = y.p:=by rw [ps_at hym] at hy; injection hy with hy; exact hy.symm
               have hyv:=HV.out y (List.mem_iff_getElem?.2 ⟨j,hym⟩);obtain ⟨yb,yo,rfl,hyb,_,c0,c1,c2,c3,c4,c5,c6⟩:=(HH1.out.below HBR.out (by omega)).at hym
               have HX:=Lq hx;have HY : Hid ((psOf bs)[idxP (psOf bs) o]? = some y.p):=Lq (by rw [hj]; exact ps_at hym)
               have HF3 : Hid (∀ W,BW W1 W → Calls Tryz.prog 61 #[.slice (some ⟨yb,yo,none⟩) bs.length cb,.string o] W fun e w'=>e = .returned (iv j) ∧ W = w'):=Lq fun W hb=>hp1 ▸ find61_any _ bs B cb o W (Nat.le_trans hbl hcb) (HH1.out.below hb (by omega))
               have hme:=meetM_eq (a:=⟨name,kind,first,last,on,wlo,whi⟩) (b:=y.p) HFF hyv;have hmc:=fun W=>meet63_any ⟨⟨name,kind,first,last,on,wlo,whi⟩,some ⟨ob,oo,none⟩,ca⟩ y W
               clear hho hp1 hy hyp hx hj hyv;obtain ⟨⟨yn,yk,yf,yl,yon,yw,yz⟩,yA,yc⟩:=y;obtain ⟨bm,hbm⟩:=ex (meetM ⟨name,kind,first,last,on,wlo,whi⟩ ⟨yn,yk,yf,yl,yon,yw,yz⟩);rw [hbm] at hme hmc;have HME:=Lq hme;have HMC:=Lq hmc;have HS : Hid (∀ W,BW wr W → W.cell? ⟨w.heap.size,0,none⟩ = some (.string name) ∧ W.cell? ⟨w.heap.size,1,none⟩ = some (iv kind) ∧ W.cell? ⟨w.heap.size,2,none⟩ = some (iv first) ∧ W.cell? ⟨w.heap.size,3,none⟩ = some (iv last) ∧ W.cell? ⟨w.heap.size,4,none⟩ = some (.slice (some ⟨ob,oo,none⟩) on.length ca) ∧ W.cell? ⟨w.heap.size,5,none⟩ = some (iv wlo) ∧ W.cell? ⟨w.heap.size,6,none⟩ = some (iv whi) ∧ W.cell? ⟨ob,oo + k,none⟩ = some (.string o) ∧ W.cell? ⟨yb,yo + j * 7,none⟩ = some (.string yn) ∧ W.cell? ⟨yb,yo + j * 7 + 1,none⟩ = some (iv yk) ∧ W.cell? ⟨yb,yo + j * 7 + 2,none⟩ = some (iv yf) ∧ W.cell? ⟨yb,yo + j * 7 + 3,none⟩ = some (iv yl) ∧ W.cell? ⟨yb,yo + j * 7 + 4,none⟩ = some (.slice yA yon.length yc) ∧ W.cell? ⟨yb,yo + j * 7 + 5,none⟩ = some (iv yw) ∧ W.cell? ⟨yb,yo + j * 7 + 6,none⟩ = some (iv yz)):=Lq fun W hb=>⟨keepC hb p0,keepC hb p1,keepC hb p2,keepC hb p3,keepC hb p4,keepC hb p5,keepC hb p6,keepC hb hck,keepC hb c0,keepC hb c1,keepC hb c2,keepC hb c3,keepC hb c4,keepC hb c5,keepC hb c6⟩
               have HHF : Hid (Calls Tryz.prog 61 #[.slice (some ⟨yb,yo,none⟩) bs.length cb,.string o] wr.drew fun e w'=>e = .returned (iv j) ∧ wr.drew = w'):=Lq (HF3.out _ (belowDr HBR.out))
               have hk0 : (0 : Int) ≤ (k : Int):=by omega
               have hj0 : (0 : Int) ≤ (j : Int):=by omega
               have hbl9 : bs.length ≤ 9223372036854775807:=by have:=Nat.le_trans hbl hcb; simp only [maxLen] at this; omega
               clear hmc hme hbm HF3;go_wp2_with fail
               go_region_held3 (fun W=>W.cell? ⟨w.heap.size,0,none⟩ = some (.string name) ∧ W.cell? ⟨w.heap.size,1,none⟩ = some (iv kind) ∧ W.cell? ⟨w.heap.size,2,none⟩ = some (iv first) ∧ W.cell? ⟨w.heap.size,3,none⟩ = some (iv last) ∧ W.cell? ⟨w.heap.size,4,none⟩ = some (.slice (some ⟨ob,oo,none⟩) on.length ca) ∧ W.cell? ⟨w.heap.size,5,none⟩ = some (iv wlo) ∧ W.cell? ⟨w.heap.size,6,none⟩ = some (iv whi) ∧ W.cell? ⟨ob,oo + k,none⟩ = some (.string o) ∧ W.cell? ⟨yb,yo + j * 7,none⟩ = some (.string yn) ∧ W.cell? ⟨yb,yo + j * 7 + 1,none⟩ = some (iv yk) ∧ W.cell? ⟨yb,yo + j * 7 + 2,none⟩ = some (iv yf) ∧ W.cell? ⟨yb,yo + j * 7 + 3,none⟩ = some (iv yl) ∧ W.cell? ⟨yb,yo + j * 7 + 4,none⟩ = some (.slice yA yon.length yc) ∧ W.cell? ⟨yb,yo + j * 7 + 5,none⟩ = some (iv yw) ∧ W.cell? ⟨yb,yo + j * 7 + 6,none⟩ = some (iv yz)) (first | exact HS.out _ (undrew0 hb7) | exact HS.out _ (belowDr (belowR _))) (first | (go_at_call 61; ((with_reducible refine HHF.out.mono ?_); rintro e w' ⟨rfl,rfl⟩)) | (go_at_call 63; ((with_reducible refine (HMC.out _).mono ?_); rintro e w7 ⟨rfl,hb7⟩)))
               have HB7:=Lq (belowT HBR.out (undrew0 hb7));clear hb7 p0 p1 p2 p3 p4 p5 p6 c0 c1 c2 c3 c4 c5 c6 hck HS HHF HMC;cases bm
               ·go_wp2_with fail
                go_ret
                refine errNo (by decide) (fun h=>?_) (belowT HB1.out HB7.out)
                have:=(HP.out.1 h).2.2 o (List.mem_iff_getElem?.2 ⟨k,HX.out⟩) _ HY.out;rw [← HME.out] at this;cases this
               ·go_wp2_with fail
                go_roundw
                case rel =>
                 refine ⟨k + 1,by omega,by go_num,Lq (fun o2 ho=>?_),HB7⟩
                 rw [List.take_add_one,HX.out] at ho;simp only [List.mem_append,Option.toList_some,List.mem_singleton] at ho;rcases ho with ho | rfl
                 ·exact HN3.out o2 ho
                 ·intro z hz;rw [HY.out] at hz;injection hz with hz
                  rw [← hz];exact HME.out.symm
                case measure=>simp [intOf]; omega
              ·go_wp2_with fail
               go_ret
               refine errOk (HP.out.2 ⟨HA1.out,HA2.out,fun o ho=>HN3.out o (by rw [List.take_of_length_le (by omega)]; exact ho)⟩) (belowT HB1.out HBR.out)
        ·have h9b : (re != 0) = true:=by simpa using h9
         go_wp2_with (first | (go_at_call 14; ((with_reducible refine (HI4.out _).mono ?_); rintro e w' ⟨rfl,rfl⟩)) | (go_at_call 14; ((with_reducible refine (HI5.out _).mono ?_); rintro e w' ⟨rfl,rfl⟩)) | (go_at_call 14; ((with_reducible refine (HI6.out _).mono ?_); rintro e w' ⟨rfl,rfl⟩)))
         go_ret
         exact errNo (by decide) (fun h=>by have:=K3.out; rw [rangeE_ok (by rw [inB_mk h.wt.1 (Int.le_trans h.wt.2.1 h.wt.2.2),inB_mk (Int.le_trans h.wt.1 h.wt.2.1) h.wt.2.2]; rfl) h.wt.2.1] at this; exact h9 this.symm) HBX.out
end
section
variable {k n' : Nat} {v' : Value}
theorem keepCa {W w1 : World} (hb : Below W.heap.size W w1) {a : Addr} {v : Value} (h : W.cell? a = some v) : w1.cell? a = some v :=
 (World.cell?_of_block (w:=W) (a:=a) (hb.block a.block (World.block_lt_of_cell? W a h))).trans h
structure RowO where
 v : Value
 e : TypeId
 size : Nat
 n : Nat
 xs : List Value
def Live (w : World) (base : Nat) (L : List (Option RowO)) : Prop :=
 base ≤ w.heap.size ∧ ∀ (i : Nat) (o : RowO),L[i]? = some (some o) → w.ownsRow base o.e o.size o.v o.n o.xs ∧ ∃ g,o.v.ownBlock = some g ∧ ∀ (j : Nat) (o' : RowO),i ≠ j → L[j]? = some (some o') → o'.v.ownBlock ≠ some g
section
variable {w w' : World} {base : Nat} {L : List (Option RowO)}
theorem live_nil (h : base ≤ w.heap.size) : Live w base [none,none,none,none]:=⟨h,fun i o hi=>by
 match i with
 | 0 | 1 | 2 | 3=>cases hi
 | i + 4=>simp at hi⟩
theorem live_drew (h : Live w base L) : Live w.drew base L:=h
theorem live_drop (h : Live w base L) (k : Nat) : Live w base (L.set k none):=⟨h.1,fun i o hi=>by
 by_cases hk : k = i
 ·subst hk;rw [List.getElem?_set] at hi;simp at hi
 ·rw [List.getElem?_set_ne hk] at hi;obtain ⟨h1,g,h2,h3⟩:=h.2 i o hi;refine ⟨h1,g,h2,fun j o' hij hj=>?_⟩
  by_cases hk' : k = j
  ·subst hk';rw [List.getElem?_set] at hj;simp at hj
  ·rw [List.getElem?_set_ne hk'] at hj;exact h3 j o' hij hj⟩
theorem live_own (h : Live w base L) {i : Nat} {o : RowO} (hi : L[i]? = some (some o)) : w.ownsRow base o.e o.size o.v o.n o.xs:=(h.2 i o hi).1
theorem live_set (k : Nat) (o : RowO) (hb : base ≤ w'.heap.size) (ho : w'.ownsRow base o.e o.size o.v o.n o.xs) {g : Nat} (hg : o.v.ownBlock = some g)
  (h : ∀ (i : Nat) (o' : RowO),i ≠ k → L[i]? = some (some o') → w'.ownsRow base o'.e o'.size o'.v o'.n o'.xs ∧ o'.v.ownBlock ≠ some g ∧ ∃ g',o'.v.ownBlock = some g' ∧ ∀ (j : Nat) (o'' : RowO),j ≠ k → i ≠ j → L[j]? = some (some o'') → o''.v.ownBlock ≠ some g') : Live w' base (L.set k (some o)):=⟨hb,fun i o' hi=>by
 by_cases hk : k = i
 ·subst hk;rw [List.getElem?_set] at hi;simp only [if_true] at hi;split at hi
  ·simp only [Option.some.injEq] at hi;subst hi;refine ⟨ho,g,hg,fun j o' hij hj=>?_⟩
   rw [List.getElem?_set_ne hij] at hj;exact (h j o' (fun e=>hij e.symm) hj).2.1
  ·cases hi
 ·rw [List.getElem?_set_ne hk] at hi;obtain ⟨h1,h2,g',h3,h4⟩:=h i o' (fun e=>hk e.symm) hi
  refine ⟨h1,g',h3,fun j o'' hij hj=>?_⟩
  by_cases hk' : k = j
  ·subst hk';rw [List.getElem?_set] at hj;simp only [if_true] at hj;split at hj
   ·simp only [Option.some.injEq] at hj;subst hj;rw [hg];intro e;exact h2 (h3.trans e.symm)
   ·cases hj
  ·rw [List.getElem?_set_ne hk'] at hj;exact h4 j o'' (fun e=>hk' e.symm) hij hj⟩
theorem live_lit (h : Live w base L) (k : Nat) (cs : Array Value) (e : TypeId) (size n : Nat) (hm : n ≤ maxLen) (hs : cs.size = n * size) : Live (w.alloc (.cells cs e)) base (L.set k (some ⟨.slice (some ⟨w.heap.size,0,none⟩) n n,e,size,n,cs.toList⟩)):=by
 refine live_set k _ (by simp; have:=h.1; omega) (World.ownsRow_lit w cs n h.1 hm hs) (g:=w.heap.size) rfl fun i o' _ hi=>?_
 obtain ⟨h1,g',h2,h3⟩:=h.2 i o' hi;refine ⟨h1.alloc _,fun e=>?_,g',h2,fun j o'' _ hij hj=>h3 j o'' hij hj⟩
 have:=(h1.lt _ e).2;omega
theorem live_grow (h : Live w base L) {o : RowO} (hk : L[k]? = some (some o)) {xs' : List Value} (hg : w.grownBy w' o.v.ownBlock) (ho : w'.ownsRow base o.e o.size v' n' xs') (hv : v'.ownBlock = o.v.ownBlock ∨ v'.ownBlock = some w.heap.size) : Live w' base (L.set k (some ⟨v',o.e,o.size,n',xs'⟩)):=by
 obtain ⟨h1,g,h2,h3⟩:=h.2 k o hk;obtain ⟨g',hg'⟩ : ∃ g',v'.ownBlock = some g':=by
  rcases hv with hv | hv
  ·exact ⟨g,hv.trans h2⟩
  ·exact ⟨_,hv⟩
 refine live_set k _ (Nat.le_trans h.1 hg.size) ho hg' fun i o' hik hi=>?_
 obtain ⟨k1,gi,k2,k3⟩:=h.2 i o' hi;have hne : o'.v.ownBlock ≠ o.v.ownBlock:=by rw [h2]; exact h3 i o' (fun e=>hik e.symm) hi
 refine ⟨k1.kept hg (.inr hne),fun e=>?_,gi,k2,fun j o'' _ hij hj=>k3 j o'' hij hj⟩
 rcases hv with hv | hv
 ·rw [hg'] at hv;exact hne (e.trans hv)
 ·rw [hg'] at hv;injection hv with hv
  subst hv;have:=(k1.lt _ e).2;omega
theorem live_src (h : Live w base L) {o : RowO} (hk : L[k]? = some (some o)) (h1 : ∀ u ∈ o.xs,u.oneCell' = true) : Srcs w o.size o.v o.n o.xs:=by
 obtain ⟨ho,g,hg,_⟩:=h.2 k o hk;have hc:=ho.cells hg;obtain ⟨hl,hr⟩:=ho;rcases hr with ⟨hv,_⟩ | ⟨g',cap,cur,hv,_,_,_,_,_,_⟩
 ·rw [hv] at hg; cases hg
 ·refine .inr ⟨⟨g',0,none⟩,cap,hv,hl,fun j u hu=>?_,h1⟩
  rw [hv] at hg;injection hg with hg
  subst hg;exact hc j u hu
end
def LiveB (V w : World) (L : List (Option RowO)) : Prop:=Below V.heap.size V w ∧ Live w V.heap.size L
section
variable {V w w' : World} {L : List (Option RowO)}
theorem liveB_start : LiveB V V.drew [none,none,none,none]:=⟨belowDq (belowR V),live_drew (live_nil (Nat.le_refl _))⟩
theorem liveB_lit (h : LiveB V w L) (k : Nat) (cs : Array Value) (e : TypeId) (size n : Nat) (hm : n ≤ maxLen) (hs : cs.size = n * size) : LiveB V (w.alloc (.cells cs e)) (L.set k (some ⟨.slice (some ⟨w.heap.size,0,none⟩) n n,e,size,n,cs.toList⟩)):=⟨belowA h.1 _,live_lit h.2 k cs e size n hm hs⟩
theorem liveB_drop (h : LiveB V w L) (k : Nat) : LiveB V w (L.set k none):=⟨h.1,live_drop h.2 k⟩
theorem liveB_grow (h : LiveB V w L) {o : RowO} (hk : L[k]? = some (some o)) {xs' : List Value} (hg : w.grownBy w' o.v.ownBlock) (ho : w'.ownsRow V.heap.size o.e o.size v' n' xs') (hv : v'.ownBlock = o.v.ownBlock ∨ v'.ownBlock = some w.heap.size) : LiveB V w' (L.set k (some ⟨v',o.e,o.size,n',xs'⟩)) :=
 ⟨grownB (live_own h.2 hk) hg (Nat.le_refl _) h.1,live_grow h.2 hk hg ho hv⟩
theorem srcs_keep (h : LiveB V w L) {size : Nat} {src : Value} {m : Nat} {news : List Value} (hs : Srcs V size src m news) : Srcs w size src m news:=by
 rcases hs with h' | ⟨ad,c,h1,h2,h3,h4⟩
 ·exact .inl h'
 ·exact .inr ⟨ad,c,h1,h2,fun j u hu=>keepCa h.1 (h3 j u hu),h4⟩
end
theorem step_append_live {P : Program} {V w : World} {L : List (Option RowO)} {ops : Array Oper} {o : Oper} {a : Act} {K : Act → World → Prop} {Q : Exit → Act → World → Prop} {E : Prop} (hgd : o.guard = none) (s x : Operand) (t : TypeId)
  (ho : o.op = .call { callee:=.builtin .append,args:=#[s,x],argTypes:=#[t,t] })
  (hL : LiveB V w L) (k : Nat) (r : RowO) (hk : L[k]? = some (some r))
  (i : TypeInfo) (z : Value) (bytes : Nat) (ht : P.underlying t = some (.slice r.e)) (hi : P.info? r.e = some i) (hz : i.zero = some z)
  (hsize : i.size = r.size) (hby : i.bytes = bytes) (hzs : z.cells.size = r.size) (hsz : 0 < r.size)
  (hs : a.eval s = r.v)
  (src : Value) (m : Nat) (news : List Value) (hx : a.eval x = src) (hsrc : Srcs w r.size src m news)
  (h63 : r.n + m ≤ maxLen) (hbytes : (r.n + m) * bytes ≤ 140737488355328)
  (h : ∀ v' w',LiveB V w' (L.set k (some ⟨v',r.e,r.size,r.n + m,r.xs ++ news⟩)) → K (a.put o.dst v') w') :
  if Region.wanted o (yielded ops a.tmps) = true then Oper.wp P o a w K Q else E:=by
 have hw : Region.wanted o (yielded ops a.tmps) = true:=by simp [Region.wanted,hgd]
 rw [if_pos hw];have hown:=live_own hL.2 hk;have hbase:=hL.2.1;rcases hsrc with ⟨rfl,rfl,rfl⟩ | ⟨ad,c,rfl,hl,hnews,h1⟩
 ·have hr:=run_append_owned_none (P:=P) w V.heap.size t o.type r.e i r.size ht hi r.v r.n r.xs hown;unfold Oper.wp execOp;simp only [ho,resolve,invoke,builtin,Sem.run_bind,Sem.run_pure,Result.andThen_ok,List.map_toArray,List.map_cons,List.map_nil,hs,hx,hr];refine h r.v w (liveB_grow hL hk (grownBy_refl _ _) (by simpa using hown) (.inl rfl))
 ·obtain ⟨v',w',hr,h2,h3,_,h5⟩:=run_append_own_at (P:=P) w V.heap.size t o.type r.e i z r.size bytes ht hi hz hsize hby hzs hsz r.v r.n r.xs hown ad m c news hl hnews h1 h63 hbytes hbase;unfold Oper.wp execOp;simp only [ho,resolve,invoke,builtin,Sem.run_bind,Sem.run_pure,Result.andThen_ok,List.map_toArray,List.map_cons,List.map_nil,hs,hx,hr];exact h v' w' (liveB_grow hL hk h3 h2 h5)
end
end Go.Proofs.YtpgfldcoojfheaaGreatDoor
