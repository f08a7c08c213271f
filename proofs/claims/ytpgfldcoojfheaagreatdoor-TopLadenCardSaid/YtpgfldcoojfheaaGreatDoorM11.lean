/- The plain law of TopLaden: a ship and the same ship without one of its parts. -/
import Derived.Test.YtpgfldcoojfheaaGreatDoorM0
import Derived.Test.YtpgfldcoojfheaaGreatDoorM9
import Derived.Test.YtpgfldcoojfheaaGreatDoorM10
set_option maxRecDepth 1000000
set_option maxHeartbeats 16000000
namespace Go.Proofs.YtpgfldcoojfheaaGreatDoor
open Go.RowKit
section
variable {s : ByteArray} {hi lo tons : Int}
def noPart : HuP:=⟨ByteArray.empty,0,0,0,[],0,0⟩
def takeC (s : ByteArray) : HuC:=⟨2,0,s,noPart⟩
theorem noPart_bare : bareP noPart = true:=by kernel_rfl
theorem run_take {d : Int} (h0 : 0 ≤ d) (l : List HuP) (s : ByteArray) : runC d l [takeC s] = (chgP l (takeC s)).map fun l'=>(l',0,l'):=by
 have h1 : inB 0 40000 (takeC s).day = true:=(by decide : inB 0 40000 0 = true)
 simp only [runC,List.foldl_cons,List.foldl_nil,stepC];rw [if_pos h1];cases chgP l (takeC s) with
 | none=>rfl
 | some l' =>
  simp only [Option.map_some];rw [if_pos (show (takeC s).day ≤ d from h0)]
  rfl
theorem take_some {l : List HuP} (hs : hasP l s = true) : (chgP l (takeC s)).isSome = true ↔ ∀ q ∈ l,standsB q s = false:=by
 constructor
 ·intro h;apply Classical.byContradiction;intro hn;rw [chgP_take_no rfl (fun h2=>hn h2.2)] at h
  cases h
 ·intro h;rw [chgP_take_ok rfl noPart_bare hs h];rfl
theorem take_plan {l : List HuP} (h : ShipOk l) (hs : hasP l s = true) : PlanOk l [takeC s] ↔ ∀ q ∈ l,standsB q s = false:=by
 rw [← take_some hs];constructor
 ·intro hp;have:=hp.run;rw [run_take (Int.le_refl 0)] at this
  simpa using this
 ·intro hp;refine ⟨h,by simp, ?_⟩
  rw [run_take (Int.le_refl 0)]
  simpa using hp
theorem take_ship {l : List HuP} (hs : hasP l s = true) (hq : ∀ q ∈ l,standsB q s = false) : shipOn 0 l [takeC s] = l.eraseIdx (idxP l s):=by
 unfold shipOn;rw [run_take (Int.le_refl 0),chgP_take_ok rfl noPart_bare hs hq];rfl
theorem plan_nil {l : List HuP} : PlanOk l [] ↔ ShipOk l:=⟨fun h=>h.ship,fun h=>⟨h,by simp,rfl⟩⟩
theorem above_nil {l : List HuP} (h : ShipOk l) : aboveL l s l.length = [] ↔ ∀ q ∈ l,standsB q s = false:=by
 rw [← over_none h s];unfold aboveL;rw [List.filterMap_eq_nil_iff];constructor
 ·intro hn i p hi;have hlt:=(List.getElem?_eq_some_iff.1 hi).1;have h1:=hn i (List.mem_range.2 hlt);simp only [hi] at h1;split at h1
  ·cases h1
  ·simp_all
 ·intro hn i hi;have hlt:=List.mem_range.1 hi;have hi' : l[i]? = some l[i]:=List.getElem?_eq_getElem hlt;simp only [hi',hn i _ hi'];simp
theorem sum_erase_le {f : HuP → Int} : ∀ (l : List HuP) (k : Nat),(∀ p ∈ l,0 ≤ f p) → ((l.eraseIdx k).map f).sum ≤ (l.map f).sum
 | [],_,_=>by simp
 | x::l,0,h=>by
  have:=h x (by simp)
  simp only [List.eraseIdx_cons_zero,List.map_cons,List.sum_cons];omega
 | x::l,k + 1,h=>by
  have:=sum_erase_le l k (fun p hp=>h p (List.mem_cons_of_mem _ hp))
  simp only [List.eraseIdx_cons_succ,List.map_cons,List.sum_cons];omega
theorem erase_le {l : List HuP} (h : ShipOk l) (f t : Int) (k : Nat) : loWs f t (l.eraseIdx k) ≤ loWs f t l ∧ hiWs f t (l.eraseIdx k) ≤ hiWs f t l:=by
 have hb : ∀ p ∈ l,0 ≤ loW f t p ∧ 0 ≤ hiW f t p:=fun p hp=>by
  obtain ⟨i,hi⟩:=List.mem_iff_getElem?.1 hp;have:=loW_bd (f:=f) (l:=t) (h.part i p hi);exact ⟨this.1,this.2.2.1⟩
 exact ⟨sum_erase_le l k fun p hp=>(hb p hp).1,sum_erase_le l k fun p hp=>(hb p hp).2⟩
theorem lohi_sum : ∀ (l : List HuP) (f t : Int),(∀ p ∈ l,loW f t p ≤ hiW f t p) → loWs f t l ≤ hiWs f t l
 | [],_,_,_=>by simp [loWs,hiWs]
 | x::l,f,t,h=>by
  have h1:=h x (by simp)
  have h2:=lohi_sum l f t fun p hp=>h p (List.mem_cons_of_mem _ hp)
  unfold loWs hiWs at *;simp only [List.map_cons,List.sum_cons];omega
theorem lohi_part {f t : Int} {x : HuP} {b o : List HuP} (h : PartOk x b o) : loW f t x ≤ hiW f t x:=by
 obtain ⟨h1,h2,h3,h4⟩:=some_bd (f:=f) (l:=t) h.fr;have hw:=h.wt;unfold loW hiW;rw [Int.tdiv_eq_ediv_of_nonneg (Int.mul_nonneg (by omega) h1),Int.tdiv_eq_ediv_of_nonneg (by have:=Int.mul_nonneg (show (0:Int) ≤ x.whi by omega) h1; omega)]
 apply Int.ediv_le_ediv (by omega)
 have : x.wlo * someW f t x ≤ x.whi * someW f t x:=Int.mul_le_mul_of_nonneg_right (by omega) h1
 omega
theorem ws_bd {l : List HuP} (h : ShipOk l) (f t : Int) : 0 ≤ loWs f t l ∧ loWs f t l ≤ hiWs f t l ∧ hiWs f t l ≤ 12000000:=by
 have h1:=sumW_bd (f:=f) (l:=t) h l.length;rw [List.take_length] at h1;have h2:=lohi_sum l f t fun p hp=>by
  obtain ⟨i,hi⟩:=List.mem_iff_getElem?.1 hp;exact lohi_part (h.part i p hi)
 have h3:=h.len;omega
def drawnS (lo hi tons : Int) : TdS:=⟨min 1500 (lo.tdiv tons),min 1500 ((hi + tons - 1).tdiv tons),0⟩
theorem drawn_ok (h0 : 0 ≤ lo) (h1 : lo ≤ hi) (ht : 1 ≤ tons) : ShOk (drawnS lo hi tons):=by
 have e1 : lo.tdiv tons = lo / tons:=Int.tdiv_eq_ediv_of_nonneg h0;have e2 : (hi + tons - 1).tdiv tons = (hi + tons - 1) / tons:=Int.tdiv_eq_ediv_of_nonneg (by omega)
 have h2 : 0 ≤ lo / tons:=Int.ediv_nonneg h0 (by omega)
 have h3 : lo / tons ≤ (hi + tons - 1) / tons:=Int.ediv_le_ediv (by omega) (by omega)
 refine ⟨?_,by simp [drawnS]⟩
 simp only [drawnS,e1,e2];omega
theorem drawn_mono {lo' hi' : Int} (h0 : 0 ≤ lo') (h1 : lo' ≤ lo) (h2 : hi' ≤ hi) (h3 : 0 ≤ hi') (ht : 1 ≤ tons) : (drawnS lo' hi' tons).dlo ≤ (drawnS lo hi tons).dlo ∧ (drawnS lo' hi' tons).dhi ≤ (drawnS lo hi tons).dhi:=by
 have h4 : lo' / tons ≤ lo / tons:=Int.ediv_le_ediv (by omega) h1
 have h5 : (hi' + tons - 1) / tons ≤ (hi + tons - 1) / tons:=Int.ediv_le_ediv (by omega) (by omega)
 simp only [drawnS];rw [Int.tdiv_eq_ediv_of_nonneg h0,Int.tdiv_eq_ediv_of_nonneg (show 0 ≤ lo by omega),Int.tdiv_eq_ediv_of_nonneg (show 0 ≤ hi' + tons - 1 by omega),Int.tdiv_eq_ediv_of_nonneg (show 0 ≤ hi + tons - 1 by omega)]
 omega
end
end Go.Proofs.YtpgfldcoojfheaaGreatDoor
