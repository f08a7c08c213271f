/- The law's arguments, opened: a plan and numbers (after mkHF7.py). Sets that hang .. -/
import Derived.ProofKit
import Derived.OpenShut
import Derived.JoinedOf
import Derived.Deep.Strs
import Derived.Deep.Slices
import Derived.Lib.SmallJoins
import Derived.Test.YtigcophcpboanaaGreatDoorRows
import Derived.Test.YtigcophcpboanaaGreatDoorM6
import Derived.Test.YtigcophcpboanaaGreatDoorM15
set_option maxRecDepth 1000000
set_option maxHeartbeats 0
namespace Go.Proofs.YtigcophcpboanaaGreatDoor
open Go.RowKit Go.ChangeShapes Go.WideShapes Go.Deep
section
variable{b0 fuel len:Nat}{c c1 v:Value}
theorem slC_nil(w:World)(B:Nat):SlC w B none 0 []:=⟨fun i x h=>by simp at h,fun c h=>by simp at h,lr _,by decide⟩
theorem addr_add(b o k:Nat):Addr.add ⟨b,o,none⟩ k=⟨b,o+k,none⟩:=by
 unfold Addr.add;split
 ·rename_i h;simp_all
 ·simp
theorem spot_none{w:World}{a:Addr}(h:w.cell? a=some v):a=⟨a.block,a.off,none⟩:=by
 obtain⟨b,o,s⟩:=a;cases s with
 | none=>rfl
 | some n =>
  exfalso;simp only[World.cell?]at h;split at h
  ·simp at h
  ·cases h
theorem row_of_cells{α:Type}{k:Nat}{encs:α→List Value}{W:World}(hen:∀x,(encs x).length=k)(hk:2≤k)(Pred:α→Prop){a:Addr}(each:∀i,i<len→∃c:α,Pred c∧∀(j:Nat) (u:Value),(encs c)[j]?=some u→W.cell? (a.add (i*k+j))=some u) :
  ∃xs:List α,xs.length=len∧(∀c∈xs,Pred c)∧RdN k encs W W.heap.size (some a) xs:=by
 have hch:=Classical.axiomOfChoice (r:=fun(i:Fin len) (c:α)=>Pred c∧∀(j:Nat) (u:Value),(encs c)[j]?=some u→W.cell? (a.add (i*k+j))=some u) fun i=>each i i.2
 obtain⟨f,hf2⟩:=hch;refine⟨List.ofFn f,by simp,fun c hc=>?_,fun i c hc=>?_⟩
 ·obtain⟨i,rfl⟩:=List.mem_ofFn.1 hc;exact(hf2 i).1
 ·have hil:i<len:=by have:=(lG hc);simpa using this
  have hfc:f ⟨i,hil⟩=c:=by rw[List.getElem?_ofFn,dif_pos hil]at hc;exact Option.some.inj hc
  have hcell:=(hf2 ⟨i,hil⟩).2;rw[hfc]at hcell;have hcl:=hen c;have hlast:=hcell (k-1) _ (gE (show k-1<(encs c).length by omega))
  have ha:a=⟨a.block,a.off,none⟩:=by
   have h0:=(hf2 ⟨0,by omega⟩).2 0 _ (gE (show 0<(encs (f ⟨0,by omega⟩)).length by rw[hen];omega))
   have hs:=spot_none h0;have e:a.add (0*k+0)=a:=by unfold Addr.add;rw[if_pos (by simp)]
   simp only at hs;rw[e]at hs;exact hs
  refine⟨a.block,a.off,by rw[←ha], ?_,fun j u hu=>?_⟩
  ·have h3':=hlast;rw[ha,addr_add]at h3';exact lt_of_cell h3'
  ·have:=hcell j u hu;rw[ha,addr_add]at this;simp only[←Nat.add_assoc]at this;exact this
def Fits{H:Type}(t:TypeId)(d:DataW H):Prop:=∀n∈d.weights Tryz.prog t,n≤reachBytes
theorem mem_all{H:Type}{P:Program}{e:TypeId}{d:DataW H}{n:Nat}(hn:n∈d.weights P e):∀{l:List (DataW H)},d∈l→n∈DataW.weightsAll P e l
 | x::l,hd=>by
  simp only[DataW.weightsAll,List.mem_append];rcases List.mem_cons.1 hd with rfl | hd
  ·exact Or.inl hn
  ·exact Or.inr (mem_all hn hd)
theorem Fits.elem{H:Type}{t e:TypeId}{elems spare:List (DataW H)}{d:DataW H}(ht:Tryz.prog.underlying t=some (.slice e))(h:Fits t (.slice elems spare))(hd:d∈elems):Fits e d:=fun n hn=>h n (by simp only[DataW.weights,ht,List.mem_cons,List.mem_append];exact Or.inr (Or.inl (mem_all hn hd)))
theorem Fits.size{H:Type}{t e:TypeId}{elems spare:List (DataW H)}(ht:Tryz.prog.underlying t=some (.slice e))(h:Fits t (.slice elems spare)):(elems.length+spare.length)*Tryz.prog.bytesOf e≤reachBytes:=h _ (by simp only[DataW.weights,ht];exact List.mem_cons_self)
theorem Fits.part{H:Type}{t u:TypeId}{fs:Array Field}{parts:List (DataW H)}{d:DataW H}{j:Nat}(ht:Tryz.prog.underlying t=some (.struct fs))(h:Fits t (.agg parts))(hu:(fs.toList.map (·.type))[j]?=some u)(hd:parts[j]?=some d):Fits u d:=fun n hn=>h n (by simp only[DataW.weights,ht];exact DataW.weights_mem_each hu hd n hn)
theorem Tryz.cells3:Tryz.prog.cellsOf 3=1:=by kernel_rfl
theorem Tryz.cells9:Tryz.prog.cellsOf 9=1:=by kernel_rfl
theorem Tryz.cells22:Tryz.prog.cellsOf 22=1:=by kernel_rfl
theorem Tryz.cells24:Tryz.prog.cellsOf 24=1:=by kernel_rfl
theorem Tryz.cells25:Tryz.prog.cellsOf 25=1:=by kernel_rfl
theorem Tryz.cells27:Tryz.prog.cellsOf 27=2:=by kernel_rfl
theorem Tryz.cells36:Tryz.prog.cellsOf 36=2:=by kernel_rfl
theorem Tryz.cells41:Tryz.prog.cellsOf 41=1:=by kernel_rfl
theorem Tryz.cells43:Tryz.prog.cellsOf 43=7:=by kernel_rfl
theorem Tryz.cells58:Tryz.prog.cellsOf 58=10:=by kernel_rfl
theorem Tryz.bytes9:Tryz.prog.bytesOf 9=16:=by kernel_rfl
section
variable {H:Type} {enc:TypeId×Value→H} {W:World} {base:Nat} {spare:Nat→Bool} {held:Bool}
theorem trodS2{P:Program}{t:TypeId}{f0 f1:Field}{cs:List Value}{x:DataW H×List MemPlace}(ht:P.underlying t=some (.struct #[f0,f1]))(h:DataW.trod enc P W base spare held fuel t cs=some x) :
  ∃y0 y1 n,x.1=.agg [y0.1,y1.1]∧cs.length=P.cellsOf t∧DataW.trod enc P W base spare held n f0.type ((cs.drop f0.offset).take (P.cellsOf f0.type))=some y0∧DataW.trod enc P W base spare held n f1.type ((cs.drop f1.offset).take (P.cellsOf f1.type))=some y1:=by
 obtain⟨xs,n,_,rfl,hl,hlen,hf⟩:=DataW.trod_struct ht h
 match xs,hlen with
 | [y0,y1],_=>exact⟨y0,y1,n,by simp,hl,by simpa using hf 0 f0 rfl,by simpa using hf 1 f1 rfl⟩
theorem trodS4{P:Program}{t:TypeId}{f0 f1 f2 f3:Field}{cs:List Value}{x:DataW H×List MemPlace}(ht:P.underlying t=some (.struct #[f0,f1,f2,f3]))(h:DataW.trod enc P W base spare held fuel t cs=some x) :
  ∃y0 y1 y2 y3 n,x.1=.agg [y0.1,y1.1,y2.1,y3.1]∧cs.length=P.cellsOf t∧DataW.trod enc P W base spare held n f0.type ((cs.drop f0.offset).take (P.cellsOf f0.type))=some y0∧DataW.trod enc P W base spare held n f1.type ((cs.drop f1.offset).take (P.cellsOf f1.type))=some y1∧DataW.trod enc P W base spare held n f2.type ((cs.drop f2.offset).take (P.cellsOf f2.type))=some y2∧DataW.trod enc P W base spare held n f3.type ((cs.drop f3.offset).take (P.cellsOf f3.type))=some y3:=by
 obtain⟨xs,n,_,rfl,hl,hlen,hf⟩:=DataW.trod_struct ht h
 match xs,hlen with
 | [y0,y1,y2,y3],_=>exact⟨y0,y1,y2,y3,n,by simp,hl,by simpa using hf 0 f0 rfl,by simpa using hf 1 f1 rfl,by simpa using hf 2 f2 rfl,by simpa using hf 3 f3 rfl⟩
theorem trodS6{P:Program}{t:TypeId}{f0 f1 f2 f3 f4 f5:Field}{cs:List Value}{x:DataW H×List MemPlace}(ht:P.underlying t=some (.struct #[f0,f1,f2,f3,f4,f5]))(h:DataW.trod enc P W base spare held fuel t cs=some x) :
  ∃y0 y1 y2 y3 y4 y5 n,x.1=.agg [y0.1,y1.1,y2.1,y3.1,y4.1,y5.1]∧cs.length=P.cellsOf t∧DataW.trod enc P W base spare held n f0.type ((cs.drop f0.offset).take (P.cellsOf f0.type))=some y0∧DataW.trod enc P W base spare held n f1.type ((cs.drop f1.offset).take (P.cellsOf f1.type))=some y1∧DataW.trod enc P W base spare held n f2.type ((cs.drop f2.offset).take (P.cellsOf f2.type))=some y2∧DataW.trod enc P W base spare held n f3.type ((cs.drop f3.offset).take (P.cellsOf f3.type))=some y3∧DataW.trod enc P W base spare held n f4.type ((cs.drop f4.offset).take (P.cellsOf f4.type))=some y4∧DataW.trod enc P W base spare held n f5.type ((cs.drop f5.offset).take (P.cellsOf f5.type))=some y5:=by
 obtain⟨xs,n,_,rfl,hl,hlen,hf⟩:=DataW.trod_struct ht h
 match xs,hlen with
 | [y0,y1,y2,y3,y4,y5],_=>exact⟨y0,y1,y2,y3,y4,y5,n,by simp,hl,by simpa using hf 0 f0 rfl,by simpa using hf 1 f1 rfl,by simpa using hf 2 f2 rfl,by simpa using hf 3 f3 rfl,by simpa using hf 4 f4 rfl,by simpa using hf 5 f5 rfl⟩
theorem trodS1{P:Program}{t:TypeId}{f0:Field}{cs:List Value}{x:DataW H×List MemPlace}(ht:P.underlying t=some (.struct #[f0]))(h:DataW.trod enc P W base spare held fuel t cs=some x) :
  ∃y0 n,x.1=.agg [y0.1]∧cs.length=P.cellsOf t∧DataW.trod enc P W base spare held n f0.type ((cs.drop f0.offset).take (P.cellsOf f0.type))=some y0:=by
 obtain⟨xs,n,_,rfl,hl,hlen,hf⟩:=DataW.trod_struct ht h
 match xs,hlen with
 | [y0],_=>exact⟨y0,n,by simp,hl,by simpa using hf 0 f0 rfl⟩
theorem open_span{c0:Value}{x:DataW H×List MemPlace}(h:DataW.trod enc Tryz.prog W base spare held fuel 36 [c0,c1]=some x):∃lo hi:Int,c0=iv lo∧c1=iv hi:=by obtain⟨y0,y1,n,_,_,h0,h1⟩:=trodS2 Tryz.underlying36 h;simp only[Tryz.cells3]at h0 h1;obtain⟨lo,e0,_,_⟩:=DataW.trod_int Tryz.underlying3 h0;obtain⟨hi,e1,_,_⟩:=DataW.trod_int Tryz.underlying3 h1;exact⟨lo,hi,by simpa using e0,by simpa using e1⟩
theorem u16_open{x:DataW H×List MemPlace}(h:DataW.trod enc Tryz.prog W base spare held fuel 28 [c]=some x):∃n:Int,c=.int .u16 n∧0≤n∧n≤65535:=by obtain⟨n,e,_,hw⟩:=DataW.trod_int Tryz.underlying28 h;have:=bounds_u16 hw;exact⟨n,by simpa using e,this.1,this.2⟩
theorem u8_open{x:DataW H×List MemPlace}(h:DataW.trod enc Tryz.prog W base spare held fuel 5 [c]=some x):∃n:Int,c=.int .u8 n∧0≤n∧n≤255:=by obtain⟨n,e,_,hw⟩:=DataW.trod_int Tryz.underlying5 h;have:=bounds_u8 hw;exact⟨n,by simpa using e,this.1,this.2⟩
theorem open_on{x:DataW H×List MemPlace}(h:DataW.trod enc Tryz.prog W base spare held fuel 41 [c]=some x)(hf:Fits 41 x.1) :
  ∃(A:Option Addr) (os:List ByteArray) (cap:Nat),c=.slice A os.length cap∧os.length≤cap∧cap≤maxLen∧Rd1 .string W W.heap.size A os∧(∀o∈os,o.size≤maxLen)∧os.length*16≤140737488351232:=by
 rcases open_strs Tryz.underlying41 Tryz.underlying9 Tryz.cells9 h with⟨e,_⟩ | ⟨a,len,cap,m,Sx,e,_,hlc,hcm,hm,hx,hcell⟩
 ·have e':c=.slice none 0 0:=List.head_eq_of_cons_eq e;rw[e'];exact⟨none,[],0,rfl,lr _,Nat.zero_le _,Rd1.nil,(fun _ h=>by cases h),by decide⟩
 ·have e':c=.slice (some a) len cap:=List.head_eq_of_cons_eq e;have hlm:len≤m:=by rw[hm];split<;>omega
  rw[hx]at hf;have hsz:=hf.size Tryz.underlying41;simp only[List.length_map,List.length_range,Tryz.bytes9]at hsz;have hsz2:len*16≤140737488351232:=by
   have h1:reachBytes=140737488351232:=by decide
   rw[h1]at hsz;omega
  rw[e'];refine⟨some a,(List.range len).map Sx,cap,by simp,by simpa using hlc,hcm,fun i x hxi=>?_,fun o ho=>?_,by simpa using hsz2⟩
  ·have hil:i<len:=by have:=(lG hxi);simpa using this
   have hxe:Sx i=x:=by simpa[hil]using hxi
   have hc:=(hcell i (by omega)).1
   have ha:a=⟨a.block,a.off,none⟩:=by
    have h0:=(hcell 0 (by omega)).1
    simpa[Addr.add]using spot_none h0
   rw[ha,addr_add]at hc;rw[hxe]at hc;exact⟨a.block,a.off,by rw[←ha],lt_of_cell hc,hc⟩
  ·obtain⟨i,hi,rfl⟩:=List.mem_map.1 ho;exact(hcell i (by have:=List.mem_range.1 hi;omega)).2
theorem open_part{cs:List Value}{x:DataW H×List MemPlace}(hl:cs.length=7)(h:DataW.trod enc Tryz.prog W base spare held fuel 43 cs=some x)(hf:Fits 43 x.1):∃m:HuM,cs=encM m∧MOk W W.heap.size m:=by
 match cs,hl with
 | [c0,c1,c2,c3,c4,c5,c6],_ =>
  obtain⟨y0,y1,y2,y3,y4,y5,n,ex,_,h0,h1,h2,h3,h4,h5⟩:=trodS6 Tryz.underlying43 h;simp only[Tryz.cells9,Tryz.cells3,Tryz.cells41,Tryz.cells36]at h0 h1 h2 h3 h4 h5;rw[ex]at hf;obtain⟨s,e0,_,hs⟩:=DataW.trod_string Tryz.underlying9 h0;obtain⟨kind,e1,_,_⟩:=DataW.trod_int Tryz.underlying3 (cs:=[c1]) h1;obtain⟨fst,e2,_,_⟩:=DataW.trod_int Tryz.underlying3 (cs:=[c2]) h2;obtain⟨lst,e3,_,_⟩:=DataW.trod_int Tryz.underlying3 (cs:=[c3]) h3;obtain⟨A,os,cap,e4,ho1,ho2,ho3,ho4,ho5⟩:=open_on (c:=c4) h4 (hf.part Tryz.underlying43 (j:=4) rfl rfl);obtain⟨wlo,whi,e5,e6⟩:=open_span (c0:=c5) (c1:=c6) h5;have e0':c0=.string s:=by simpa using e0
  have e1':c1=iv kind:=by simpa using e1
  have e2':c2=iv fst:=by simpa using e2
  have e3':c3=iv lst:=by simpa using e3
  subst e0' e1' e2' e3' e4 e5 e6;exact⟨⟨⟨s,kind,fst,lst,os,wlo,whi⟩,A,cap⟩,rfl,⟨ho3,ho1,ho2,hs,ho4,ho5⟩⟩
theorem open_parts{x:DataW H×List MemPlace}(h:DataW.trod enc Tryz.prog W base spare held fuel 22 [c]=some x)(hf:Fits 22 x.1) :
  ∃(A:Option Addr) (ms:List HuM) (cap:Nat),c=.slice A ms.length cap∧ms.length≤cap∧cap≤maxLen∧(A=none→cap=0)∧MsRd W W.heap.size A ms:=by
 rcases open_slice Tryz.underlying22 (cs:=[c]) h with⟨e,_⟩ | ⟨a,len,cap,m,n2,D,Pl,e,_,hlc,hcm,hm,hx,hi2⟩
 ·have e':c=.slice none 0 0:=List.head_eq_of_cons_eq e;rw[e'];exact⟨none,[],0,rfl,lr _,Nat.zero_le _,(fun _=>rfl),⟨RdN.nil,fun _ h=>by cases h⟩⟩
 ·have hlm:len≤m:=by rw[hm];split<;>omega
  rw[hx]at hf;obtain⟨xs,hxl,hP,hR⟩:=row_of_cells (W:=W) (a:=a) (len:=len) (k:=7) (encs:=encM) (fun _=>rfl) (by decide) (fun m=>MOk W W.heap.size m) (fun i hil=>by
   obtain⟨cs',hc,ht'⟩:=hi2 i (by omega)
   rw[Tryz.cells43]at hc;obtain⟨_,hcl,hat⟩:=World.cells?_some hc;obtain⟨c,rfl,hs⟩:=open_part hcl ht' (hf.elem Tryz.underlying22 (List.mem_map.2 ⟨i,List.mem_range.2 hil,rfl⟩));refine⟨c,hs,fun j u hu=>?_⟩
   have hj:j<7:=(lG hu);rw[←Go.Deep.add_add,hat j hj,hu])
  exact⟨some a,xs,cap,by rw[hxl];exact List.head_eq_of_cons_eq e,by omega,hcm,(fun h=>by cases h),⟨hR,hP⟩⟩
theorem open_change{cs:List Value}{x:DataW H×List MemPlace}(hl:cs.length=10)(h:DataW.trod enc Tryz.prog W base spare held fuel 58 cs=some x)(hf:Fits 58 x.1):∃c:HcM,cs=encC c∧(MOk W W.heap.size c.part∧c.name.size≤maxLen)∧Lit.wf (.int .i64 c.what)=true:=by
 match cs,hl with
 | [c0,c1,c2,c3,c4,c5,c6,c7,c8,c9],_ =>
  obtain⟨y0,y1,y2,y3,n,ex,_,h0,h1,h2,h3⟩:=trodS4 Tryz.underlying58 h;simp only[Tryz.cells9,Tryz.cells3,Tryz.cells43]at h0 h1 h2 h3;rw[ex]at hf;obtain⟨what,e0,_,hw⟩:=DataW.trod_int Tryz.underlying3 (cs:=[c0]) h0;obtain⟨day,e1,_,_⟩:=DataW.trod_int Tryz.underlying3 (cs:=[c1]) h1;obtain⟨s,e2,_,hs⟩:=DataW.trod_string Tryz.underlying9 (cs:=[c2]) h2;obtain⟨m,e3,hm⟩:=open_part (cs:=[c3,c4,c5,c6,c7,c8,c9]) rfl h3 (hf.part Tryz.underlying58 (j:=3) rfl rfl);have e0':c0=iv what:=by simpa using e0
  have e1':c1=iv day:=by simpa using e1
  have e2':c2=.string s:=by simpa using e2
  injection e3 with e3 e3b
  injection e3b with e4 e3b
  injection e3b with e5 e3b
  injection e3b with e6 e3b
  injection e3b with e7 e3b
  injection e3b with e8 e3b
  injection e3b with e9 e3b
  subst e0' e1' e2' e3 e4 e5 e6 e7 e8 e9;exact⟨⟨what,day,s,m⟩,rfl,⟨hm,hs⟩,hw⟩
theorem open_changes{x:DataW H×List MemPlace}(h:DataW.trod enc Tryz.prog W base spare held fuel 25 [c]=some x)(hf:Fits 25 x.1) :
  ∃(A:Option Addr) (cs:List HcM) (cap:Nat),c=.slice A cs.length cap∧SlC W W.heap.size A cap cs∧∀c∈cs,Lit.wf (.int .i64 c.what)=true:=by
 rcases open_slice Tryz.underlying25 (cs:=[c]) h with⟨e,_⟩ | ⟨a,len,cap,m,n2,D,Pl,e,_,hlc,hcm,hm,hx,hi2⟩
 ·have e':c=.slice none 0 0:=List.head_eq_of_cons_eq e;rw[e'];exact⟨none,[],0,rfl,slC_nil _ _,fun _ h=>by cases h⟩
 ·have hlm:len≤m:=by rw[hm];split<;>omega
  rw[hx]at hf;obtain⟨xs,hxl,hP,hR⟩:=row_of_cells (W:=W) (a:=a) (len:=len) (k:=10) (encs:=encC) (fun _=>rfl) (by decide) (fun c=>(MOk W W.heap.size c.part∧c.name.size≤maxLen)∧Lit.wf (.int .i64 c.what)=true) (fun i hil=>by
   obtain⟨cs',hc,ht'⟩:=hi2 i (by omega)
   rw[Tryz.cells58]at hc;obtain⟨_,hcl,hat⟩:=World.cells?_some hc;obtain⟨c,rfl,hs,hw⟩:=open_change hcl ht' (hf.elem Tryz.underlying25 (List.mem_map.2 ⟨i,List.mem_range.2 hil,rfl⟩));refine⟨c,⟨hs,hw⟩,fun j u hu=>?_⟩
   have hj:j<10:=(lG hu);rw[←Go.Deep.add_add,hat j hj,hu])
  exact⟨some a,xs,cap,by rw[hxl];exact List.head_eq_of_cons_eq e,⟨hR,fun c hc=>(hP c hc).1,by omega,hcm⟩,fun c hc=>(hP c hc).2⟩
theorem Tryz.leaves27:Tryz.prog.cellTypes Tryz.prog.depth 27=some [22,25]:=by kernel_rfl
theorem off_of_ok{a:Addr}{cap:Nat}(hv:Value.okWide Tryz.prog W .any b0 27 (.agg #[.slice (some a) len cap,c1])):a.spot=none∧a.block<W.heap.size:=by
 unfold Value.okWide at hv;rw[Tryz.underlying27]at hv;obtain⟨cs,e,_,ts,hts,_,hc⟩:=hv;injection e with e
 subst e;rw[Tryz.leaves27]at hts;injection hts with hts
 subst hts;obtain⟨u,hu,hk⟩:=hc 0 _ rfl;have hu2:u=22:=by simpa using hu.symm
 subst hu2;unfold Cell.okWide at hk;rw[Tryz.underlying22]at hk;unfold Cell.ok at hk;rw[Tryz.underlying22]at hk;obtain⟨_,_,_,hs,row,cells,hsh,_⟩:=hk;refine⟨hs, ?_⟩;unfold World.shape? at hsh;have hlt:∃o,W.heap[a.block]?=some o:=by
  cases ho:W.heap[a.block]? with
  | none=>rw[ho]at hsh;simp at hsh
  | some o=>exact⟨o,rfl⟩
 obtain⟨o,ho⟩:=hlt;exact(Array.getElem?_eq_some_iff.1 ho).1
theorem open_plan{d:DataW H}{p:List MemPlace}(hv:Value.okWide Tryz.prog W .any b0 27 v)(h:DataW.Trod enc Tryz.prog W base spare held 27 v d p)(hf:Fits 27 d) :
  ∃(A C:Option Addr) (ms:List HuM) (cs:List HcM) (cap capc:Nat),v=.agg #[.slice A ms.length cap,.slice C cs.length capc]∧SlM W W.heap.size A cap ms∧SlC W W.heap.size C capc cs∧∀c∈cs,Lit.wf (.int .i64 c.what)=true:=by
 have hv0:=hv;obtain⟨arr,rfl,hsz⟩:=okWide_struct Tryz.underlying27 hv;obtain⟨l⟩:=arr;replace hsz:=hsz.trans Tryz.cells27
 match l,hsz with
 | [c0,c1],_ =>
  obtain⟨fuel,hfu⟩:=h;obtain⟨y0,y1,n,ex,_,h0,h1⟩:=trodS2 Tryz.underlying27 hfu;simp only at ex;rw[ex]at hf;simp only[Tryz.cells24,Tryz.cells25]at h0 h1;have hf0:=hf.part Tryz.underlying27 (j:=0) rfl rfl;obtain⟨z0,n2,ex2,_,h2⟩:=trodS1 Tryz.underlying24 (cs:=[c0]) h0;rw[ex2]at hf0;simp only[Tryz.cells22]at h2;obtain⟨A,ms,cap,e0,p1,p2,p3,p4⟩:=open_parts (c:=c0) h2 (hf0.part Tryz.underlying24 (j:=0) rfl rfl);obtain⟨C,cs,capc,e1,q1,q2⟩:=open_changes (c:=c1) h1 (hf.part Tryz.underlying27 (j:=1) rfl rfl);subst e0 e1;exact⟨A,C,ms,cs,cap,capc,rfl,⟨p4,p1,p2,p3,fun a ha=>by subst ha;exact off_of_ok hv0⟩,q1,q2⟩
end
theorem Tryz.laidOut:laidOutB Tryz.prog=true:=by kernel_rfl
end
end Go.Proofs.YtigcophcpboanaaGreatDoor
namespace Go.Proofs.YtigcophcpboanaaGreatDoor
open Go.RowKit
theorem hangF_eq(js:List (Int×Int))(s f m:Nat):hangF js s (f+1) m=if hround js s m=m then m==s else hangF js s f (hround js s m):=rfl
def subB(a b:Nat):Prop:=∀i,a.testBit i=true→b.testBit i=true
theorem subB.eq{a b:Nat}(h:subB a b)(k:subB b a):a=b:=Nat.eq_of_testBit_eq fun i=>by
 cases e:a.testBit i with
 | true=>rw[h i e]
 | false =>
  cases e2:b.testBit i with
  | false=>rfl
  | true=>rw[k i e2]at e;cases e
section
variable {s x y m F:Nat} {j:Int×Int} {js js':List (Int×Int)}
theorem hstep_grow:subB x (hstep s x j):=fun i hi=>by
 unfold hstep;split
 ·rw[Nat.testBit_or,hi];rfl
 ·exact hi
theorem hstep_in(h:subB x s):subB (hstep s x j) s:=fun i hi=>by
 unfold hstep at hi;split at hi
 ·rename_i hc;rw[Nat.testBit_or,Bool.or_eq_true]at hi;rcases hi with hi | hi
  ·exact h i hi
  ·have e:=congrArg (fun z=>z.testBit i) hc.1
   simp only[Nat.testBit_and,hi,Bool.true_and]at e;exact e
 ·exact h i hi
theorem hround_in:∀(js:List (Int×Int)) {x:Nat},subB x s→subB (hround js s x) s:=by
 intro js;induction js with
 | nil=>intro x h;exact h
 | cons j js ih=>intro x h;exact ih (hstep_in h)
theorem hround_grow:∀(js:List (Int×Int)) {x:Nat},subB x (hround js s x):=by
 intro js;induction js with
 | nil=>intro x i h;exact h
 | cons j js ih=>intro x i h;exact ih i (hstep_grow i h)
theorem hround_fix:hround js s F=F↔∀j∈js,hstep s F j=F:=by
 induction js with
 | nil=>exact⟨fun _ j hj=>(by cases hj),fun _=>rfl⟩
 | cons k js ih =>
  constructor
  ·intro h;have h1:hround (k::js) s F=hround js s (hstep s F k):=rfl;rw[h1]at h;have h2:=hstep_ge s F k;have h3:=fold_ge s js (hstep s F k);have h4:hstep s F k=F:=by
    have:js.foldl (hstep s) (hstep s F k)=F:=h;omega
   rw[h4]at h;intro j hj;rcases List.mem_cons.1 hj with rfl | hj
   ·exact h4
   ·exact(ih.1 h) j hj
  ·intro h;have h1:hround (k::js) s F=hround js s (hstep s F k):=rfl;rw[h1,h k (List.mem_cons_self ..)];exact ih.2 fun j hj=>h j (List.mem_cons_of_mem _ hj)
theorem hangF_stop{n:Nat}(hj:JsOk n js)(hn:n≤8):∀(f m:Nat),257≤f+m→m<256→subB m s→hangF js s f m=false→∃F,hround js s F=F∧subB m F∧subB F s∧F≠s:=by
 intro f;induction f with
 | zero=>intro m h1 h2;omega
 | succ f ih =>
  intro m h1 h2 h3 h;rw[hangF_eq]at h;split at h
  ·rename_i hc;refine⟨m,hc,fun i hi=>hi,h3,fun e=>?_⟩
   rw[e]at h;simp at h
  ·rename_i hc;have hlt:hround js s m<256:=fold_lt hn s js m hj h2;have hge:m≤hround js s m:=fold_ge s js m;obtain⟨F,a,b,c,d⟩:=ih (hround js s m) (by omega) hlt (hround_in js h3) h
   exact⟨F,a,fun i hi=>b i (hround_grow js i hi),c,d⟩
end
section
variable{i k:Nat}
def jsIn(l:List HuP)(i k:Nat):List (Int×Int):=(List.range k).filterMap fun j=>match l[i]?,l[j]? with
 | some p,some q=>if standsB p q.name then some ((j:Int),(i:Int))else none
 | _,_=>none
def jsTo(l:List HuP)(m:Nat):List (Int×Int):=(List.range m).flatMap fun i=>jsIn l i i
theorem jsIn_succ{l:List HuP}{p q:HuP}(hp:l[i]?=some p)(hq:l[k]?=some q):jsIn l i (k+1)=jsIn l i k++(if standsB p q.name then[((k:Int),(i:Int))]else[]):=by
 unfold jsIn;rw[List.range_succ,List.filterMap_append]
 congr 1
 simp only[List.filterMap_cons,List.filterMap_nil,hp,hq];cases standsB p q.name<;>rfl
theorem jsTo_succ(l:List HuP)(m:Nat):jsTo l (m+1)=jsTo l m++jsIn l m m:=by unfold jsTo;rw[List.range_succ,List.flatMap_append];simp
theorem mem_jsTo{l:List HuP}{m j:Nat}{p q:HuP}(hi:i<m)(hj:j<i)(hp:l[i]?=some p)(hq:l[j]?=some q)(ho:standsB p q.name=true):((j:Int),(i:Int))∈jsTo l m:=by unfold jsTo;refine List.mem_flatMap.2 ⟨i,List.mem_range.2 hi, ?_⟩;unfold jsIn;exact List.mem_filterMap.2 ⟨j,List.mem_range.2 hj,by simp only[hp,hq,ho,if_true]⟩
theorem jsTo_ok(l:List HuP)(m:Nat):JsOk m (jsTo l m):=by
 intro x hx;unfold jsTo at hx;obtain⟨i,hi,hx⟩:=List.mem_flatMap.1 hx;unfold jsIn at hx;obtain⟨j,hj,hx⟩:=List.mem_filterMap.1 hx;have hi:=List.mem_range.1 hi;have hj:=List.mem_range.1 hj;split at hx
 ·split at hx
  ·injection hx with hx
   subst hx;simp only;omega
  ·cases hx
 ·cases hx
def hullOf(l:List HuP):Hul:=⟨l.map fun p=>⟨p.name,p.wlo,p.whi⟩,jsTo l l.length,1000,1000,1⟩
def setTo(b:Nat→Bool):Nat→Nat
 | 0=>0
 | m+1=>setTo b m+if b m then 2^m else 0
theorem setTo_lt(b:Nat→Bool):∀m,setTo b m<2^m
 | 0=>by simp[setTo]
 | m+1=>by have:=setTo_lt b m;unfold setTo;split<;>rw[Nat.pow_succ]<;>omega
theorem setTo_bit(b:Nat→Bool)(i:Nat):∀m,(setTo b m).testBit i=(decide (i<m)&&b i)
 | 0=>by simp[setTo]
 | m+1=>by
  have ih:=setTo_bit b i m;have hl:=setTo_lt b m;unfold setTo;cases hb:b m with
  | false =>
   simp only[Bool.false_eq_true,if_false,Nat.add_zero,ih];by_cases h:i=m
   ·subst h;simp[hb]
   ·have:decide (i<m)=decide (i<m+1):=by simp only[decide_eq_decide];omega
    rw[this]
  | true =>
   simp only[if_true];rw[Nat.add_comm];rcases Nat.lt_trichotomy i m with h | h | h
   ·rw[Nat.testBit_two_pow_add_gt h,ih];have e1:decide (i<m)=true:=by simpa using h
    have e2:decide (i<m+1)=true:=by simp only[decide_eq_true_eq];omega
    rw[e1,e2]
   ·subst h;rw[Nat.testBit_two_pow_add_eq,ih];simp[hb]
   ·have e2:decide (i<m+1)=false:=by simp only[decide_eq_false_iff_not];omega
    rw[e2,Bool.false_and];refine Nat.testBit_lt_two_pow ?_;have:2^(m+1)≤2^i:=Nat.pow_le_pow_right (by decide) (by omega)
    rw[Nat.pow_succ]at this;omega
theorem setTo_all:∀m,setTo (fun _=>true) m=2^m-1
 | 0=>rfl
 | m+1=>by
  have:=setTo_all m;have h:=Nat.two_pow_pos m;show setTo (fun _=>true) m+(if true=true then 2^m else 0)=_
  rw[this,if_pos rfl,Nat.pow_succ];omega
def inSet(l:List HuP)(k:Nat)(s:ByteArray)(i:Nat):Bool:=i==k||overAt l s i
theorem over_gt{l:List HuP}(h:ShipOk l){x:HuP}(hk:l[k]?=some x):∀i p,l[i]?=some p→overAt l x.name i=true→k<i:=by
 intro i;induction i using Nat.strongRecOn with
 | ind i ih =>
  intro p hi ho;rw[overAt_eq hi (fun o ho=>(h.below hi ho).1),Bool.or_eq_true]at ho
  rcases ho with ho | ho
  ·unfold standsB at ho;obtain⟨o,hm,he⟩:=List.any_eq_true.1 ho;have he:=eqS_iff.1 he;have h1:=(h.below hi hm).1;rw[(h.find hk he.symm).2.1]at h1;exact h1
  ·obtain⟨o,hm,ho⟩:=List.any_eq_true.1 ho;obtain⟨hlt,y,hy,_⟩:=h.below hi hm;exact Nat.lt_trans (ih _ hlt y hy ho) hlt
theorem low_min:∀s:Nat,s<256→∀k:Nat,k<8→s.testBit k=true→(∀i:Nat,i<k→s.testBit i=false)→(s&&&(256-s)).testBit k=true:=by decide +kernel
theorem hung_above{l:List HuP}(h:ShipOk l)(hn:l.length≤8){x:HuP}(hk:l[k]?=some x):hangsB (jsTo l l.length) (setTo (inSet l k x.name) l.length)=true:=by
 have hkl:k<l.length:=(lG hk);have hp8:2^l.length≤256:=Nat.pow_le_pow_right (n:=2) (by decide) hn
 have hs:setTo (inSet l k x.name) l.length<256:=lz (setTo_lt _ _) hp8;obtain⟨s,hse⟩:∃s,s=setTo (inSet l k x.name) l.length:=⟨_,rfl⟩;have hb:∀i,s.testBit i=(decide (i<l.length)&&inSet l k x.name i):=fun i=>by rw[hse];exact setTo_bit _ i _
 rw[←hse]at hs ⊢;cases e:hangsB (jsTo l l.length) s with
 | true=>rfl
 | false =>
  exfalso;have hsk:s.testBit k=true:=by rw[hb];simp[hkl,inSet]
  have hlo:∀i,i<k→s.testBit i=false:=fun i hi=>by
   rw[hb];have hil:i<l.length:=by omega
   have hne:(i==k)=false:=by simp;omega
   cases ho:overAt l x.name i with
   | false=>simp[inSet,hne,ho]
   | true=>have:=over_gt h hk i _ (gE hil) ho;omega
  have hlow:=low_min s hs k (by omega) hsk hlo
  obtain⟨F,hfix,hlF,hFs,hne⟩:=hangF_stop (jsTo_ok l l.length) hn 257 (s&&&(256-s)) (by omega) (low_lt s hs) (fun i hi=>by rw[Nat.testBit_and,Bool.and_eq_true]at hi;exact hi.1) e
  have hfx:=hround_fix.1 hfix;have hFk:F.testBit k=true:=hlF k hlow
  -- one joint further
  have step:∀i j p q,i<l.length→j<i→l[i]?=some p→l[j]?=some q→standsB p q.name=true→s.testBit i=true→F.testBit j=true→F.testBit i=true:=by
   intro i j p q hi hj hp hq ho hsi hFj;have hjm:=mem_jsTo hi hj hp hq ho;have h1:=hfx _ hjm;have hsj:=hFs j hFj;unfold hstep pairN at h1;simp only[Int.toNat_natCast]at h1;rw[if_pos]at h1
   ·rw[←h1,Nat.testBit_or,Nat.testBit_or,Nat.testBit_two_pow_self];simp
   ·constructor
    ·apply Nat.eq_of_testBit_eq;intro t;rw[Nat.testBit_and,Nat.testBit_or,Nat.testBit_two_pow,Nat.testBit_two_pow];by_cases e1:j=t
     ·subst e1;simp[hsj]
     ·by_cases e2:i=t
      ·subst e2;simp[hsi]
      ·simp[e1,e2]
    ·intro h0;have:=congrArg (fun z=>z.testBit j) h0
     simp only[Nat.testBit_and,Nat.testBit_or,Nat.testBit_two_pow_self,hFj,Nat.zero_testBit]at this;simp at this
  refine hne (subB.eq hFs fun i=>?_)
  induction i using Nat.strongRecOn with
  | ind i ih =>
   intro hi;have hi0:=hi;rw[hb,Bool.and_eq_true]at hi;obtain⟨hil,hin⟩:=hi;have hil:i<l.length:=by simpa using hil
   by_cases hik:i=k
   ·rw[hik];exact hFk
   ·have ho:overAt l x.name i=true:=by
     unfold inSet at hin
     simpa[hik]using hin
    have hp:l[i]?=some l[i]:=gE hil;rw[overAt_eq hp (fun o ho=>(h.below hp ho).1),Bool.or_eq_true]at ho
    rcases ho with ho | ho
    ·refine step i k _ x hil ?_ hp hk ho hi0 hFk;exact over_gt h hk i _ hp (by rw[overAt_eq hp (fun o ho=>(h.below hp ho).1),ho];rfl)
    ·obtain⟨o,hm,ho⟩:=List.any_eq_true.1 ho;obtain⟨hlt,y,hy,hye,_⟩:=h.below hp hm;refine step i _ _ y hil hlt hp hy ?_ hi0 (ih _ hlt ?_)
     ·unfold standsB;exact List.any_eq_true.2 ⟨o,hm,eqS_iff.2 hye.symm⟩
     ·rw[hb];have:idxP l o<l.length:=by omega
      simp[this,inSet,ho]
def wf(f:HuP→Int)(l:List HuP)(i:Nat):Int:=match l[i]? with
 | some p=>f p
 | none=>0
theorem wf_at{f:HuP→Int}{l:List HuP}{p:HuP}(h:l[i]?=some p):wf f l i=f p:=by unfold wf;rw[h]
theorem sum_set(w:Nat→Int)(b:Nat→Bool){n:Nat}(hn:n≤8):sumS w (setTo b n)=sumTo w b n:=by
 have h1:∀m,sumTo w (fun i=>decide (i<n)&&b i) m=sumTo w b (min m n):=by
  intro m;induction m with
  | zero=>rw[Nat.zero_min];rfl
  | succ m ih =>
   simp only[sumTo];rw[ih];rcases Nat.lt_or_ge m n with h | h
   ·rw[show min (m+1) n=m+1 by omega,show min m n=m by omega]
    simp[sumTo,h]
   ·rw[show min (m+1) n=n by omega,show min m n=n by omega]
    have:decide (m<n)=false:=by simp only[decide_eq_false_iff_not];omega
    simp[this]
 unfold sumS sumP;rw[sumTo_congr 8 (P:=fun i=>(setTo b n).testBit i) (Q:=fun i=>decide (i<n)&&b i) (w:=w) (w':=w) (fun i _=>setTo_bit b i n) (fun _ _ _=>rfl),h1 8,Nat.min_eq_right hn]
theorem sum_all(f:HuP→Int)(l:List HuP):∀m,m≤l.length→sumTo (wf f l) (fun _=>true) m=((l.take m).map f).sum
 | 0,_=>by simp[sumTo]
 | m+1,h=>by
  have hm:l[m]?=some l[m]:=gE (by omega)
  simp only[sumTo,if_true];rw[sum_all f l m (by omega),List.take_add_one,hm,wf_at hm]
  simp only[Option.toList_some,List.map_append,List.map_cons,List.map_nil,List.sum_append,List.sum_cons,List.sum_nil];omega
theorem loW_all{x:HuP}{b o:List HuP}(h:PartOk x b o):loW 0 40 x=x.wlo∧hiW 0 40 x=x.whi:=by
 have hf:=h.fr;have hw:=h.wt;have e:someW 0 40 x=allW x:=by unfold someW allW;omega
 have h1:1≤allW x:=by unfold allW;omega
 unfold loW hiW;rw[e];constructor
 ·exact Int.mul_tdiv_cancel _ (by omega)
 ·have hn:0≤x.whi*allW x:=Int.mul_nonneg (by omega) (by omega)
  rw[Int.tdiv_eq_ediv_of_nonneg (by omega),show x.whi*allW x+allW x-1=(allW x-1)+x.whi*allW x by omega,Int.add_mul_ediv_right _ _ (by omega),Int.ediv_eq_zero_of_lt (by omega) (by omega)]
  omega
theorem ws_all{l:List HuP}(h:ShipOk l):loWs 0 40 l=(l.map HuP.wlo).sum∧hiWs 0 40 l=(l.map HuP.whi).sum:=by
 have hp:∀p∈l,loW 0 40 p=p.wlo∧hiW 0 40 p=p.whi:=fun p hp=>by obtain⟨i,hi⟩:=List.mem_iff_getElem?.1 hp;exact loW_all (h.part i p hi)
 unfold loWs hiWs;rw[List.map_congr_left (fun p h=>(hp p h).1),List.map_congr_left (fun p h=>(hp p h).2)]
 exact⟨rfl,rfl⟩
theorem truth_f{l:List HuP}(f:HuP→Int)(hf:∀p∈l,p.wlo≤f p∧f p≤p.whi):TruthP (hullOf l) [] (wf f l):=by
 refine⟨fun i p hp=>?_,fun x hx=>by cases hx⟩
 unfold hullOf at hp;simp only[List.getElem?_map,Option.map_eq_some_iff]at hp;obtain⟨q,hq,rfl⟩:=hp;rw[wf_at hq];exact hf q (mG ⟨i,hq⟩)
theorem most_hung{l:List HuP}(h:ShipOk l)(s:Nat)(hs:s<2^l.length):IsMost (hullOf l) [] s (sumS (wf HuP.whi l) s)∧IsLeast (hullOf l) [] s (sumS (wf HuP.wlo l) s):=by
 have hp:∀p∈l,p.wlo≤p.whi:=fun p hp=>by obtain⟨i,hi⟩:=List.mem_iff_getElem?.1 hp;exact(h.part i p hi).wt.2.1
 have hbit:∀i,s.testBit i=true→i<l.length:=fun i hi=>by
  rcases Nat.lt_or_ge i l.length with h1 | h1
  ·exact h1
  ·rw[Nat.testBit_lt_two_pow (lz hs (Nat.pow_le_pow_right (by decide) h1))]at hi
   cases hi
 have hat:∀i,i<l.length→∃p,l[i]?=some p∧(hullOf l).ps[i]?=some ⟨p.name,p.wlo,p.whi⟩:=fun i hi=>⟨l[i],gE hi,by unfold hullOf;simp[hi]⟩
 refine⟨⟨fun w hw=>sumS_le fun i _ hi=>?_,_,truth_f HuP.whi (fun p h=>⟨hp p h,Int.le_refl _⟩),rfl⟩,⟨fun w hw=>sumS_le fun i _ hi=>?_,_,truth_f HuP.wlo (fun p h=>⟨Int.le_refl _,hp p h⟩),rfl⟩⟩
 ·obtain⟨p,hp1,hp2⟩:=hat i (hbit i hi);rw[wf_at hp1];exact(hw.1 i _ hp2).2
 ·obtain⟨p,hp1,hp2⟩:=hat i (hbit i hi);rw[wf_at hp1];exact(hw.1 i _ hp2).1
theorem upD_same{n:Int}(hn:0≤n):upD (n*1000) 1000=n:=by
 unfold upD;rw[Int.tdiv_eq_ediv_of_nonneg (by omega)]
 omega
theorem hung_pull{l:List HuP}(h:ShipOk l)(hn:l.length≤8)(b:Nat→Bool)(h0:0<setTo b l.length)(hp:openPre (hullOf l) []=0){V:World}{e:Ending}{w':World}(hpost:PullPost (hullOf l) [] (setTo b l.length:Nat) V e w') :
  BW V w'∧(hangsB (jsTo l l.length) (setTo b l.length)=true→e=.returned (.tuple #[.agg #[iv (sumTo (wf HuP.wlo l) b l.length),iv (sumTo (wf HuP.whi l) b l.length)],iv 0]))∧(hangsB (jsTo l l.length) (setTo b l.length)=false→e=.returned (.tuple #[.agg #[iv 0,iv 0],iv 6])):=by
 have hlen:(hullOf l).ps.length=l.length:=by unfold hullOf;simp
 have hs:=setTo_lt b l.length;have hpp:∀p∈l,1≤p.wlo∧p.wlo≤p.whi:=fun p hp=>by obtain⟨i,hi⟩:=List.mem_iff_getElem?.1 hp;exact⟨(h.part i p hi).wt.1,(h.part i p hi).wt.2.1⟩
 have hf:Feas (hullOf l) []:=⟨_,truth_f HuP.wlo (fun p h=>⟨Int.le_refl _,(hpp p h).2⟩)⟩
 have ho:openE (hullOf l) []=0:=by unfold openE;rw[if_pos hp,if_pos hf]
 have hen:enterE (hullOf l) [] (setTo b l.length:Nat)=if hangsB (jsTo l l.length) (setTo b l.length)then 0 else 6:=by
  unfold enterE;rw[if_pos ho,hlen];unfold blockE;rw[if_pos,Int.toNat_natCast]
  ·rfl
  ·have e2:((2:Int)^l.length)=((2^l.length:Nat):Int):=by rw[Int.natCast_pow];rfl
   unfold inB;rw[e2];simp;omega
 obtain⟨hb,hc⟩:=hpost;refine⟨hb,fun hh=>?_,fun hh=>?_⟩
 ·rw[hh,if_pos rfl]at hen;rcases hc with⟨hne,_⟩ | ⟨_,_,_,_,N,hN,rfl⟩
  ·exact absurd hen hne
  ·have hm:=most_hung h _ hs;have e1:=(mostV_is hp hN hf (by rw[hlen];exact hs)).uniq hm.1
   have e2:=(leastV_is hp hN hf (by rw[hlen];exact hs)).uniq hm.2
   rw[Int.toNat_natCast,e1,e2,sum_set _ _ hn,sum_set _ _ hn];have n1:0≤sumTo (wf HuP.whi l) b l.length:=by
    rw[←sum_set _ _ hn];have:sumS (fun _=>0) (setTo b l.length)≤sumS (wf HuP.whi l) (setTo b l.length):=sumS_le fun i _ _=>by
     unfold wf;split
     ·rename_i p hpi;have:=hpp p (mG ⟨i,hpi⟩);omega
     ·exact Int.le_refl _
    have z:sumS (fun _=>0) (setTo b l.length)=0:=by simp[sumS,sumP,sumTo]
    omega
   unfold pullV hullOf;simp only;rw[upD_same n1,Int.mul_tdiv_cancel _ (by decide)]
 ·rw[hh]at hen;simp only[Bool.false_eq_true,if_false]at hen;rcases hc with⟨_,rfl⟩ | ⟨h0,_⟩
  ·rw[hen]
  ·rw[hen]at h0;cases h0
end
section
variable{i k:Nat}{V w':World}
theorem openPre_nil{h:Hul}(hc:(checkE h).2.2=0):openPre h []=0:=by
 unfold openPre;rw[if_pos hc,if_pos (by simp)]
 simp[weighedsE,firstBad]
theorem names_one{l:List HuP}(h:ShipOk l){j:Nat}{p q:HuP}(hi:l[i]?=some p)(hj:l[j]?=some q)(he:p.name.toList=q.name.toList):i=j:=by
 rcases Nat.lt_trichotomy i j with h1 | h1 | h1
 ·exact absurd he ((h.part j q hj).new p (mG ⟨i,by rw[List.getElem?_take_of_lt h1];exact hi⟩))
 ·exact h1
 ·exact absurd he.symm ((h.part i p hi).new q (mG ⟨j,by rw[List.getElem?_take_of_lt h1];exact hj⟩))
theorem above_to{l:List HuP}(h:ShipOk l)(s:ByteArray){p:HuP}(hi:l[i]?=some p):∀n,n≤l.length→oneOf (aboveL l s n) p.name=(decide (i<n)&&overAt l s i):=by
 intro n;induction n with
 | zero=>intro _;rfl
 | succ n ih =>
  intro hn;obtain⟨q,hq⟩:=gX (l:=l) (i:=n) (by omega)
  have ih:=ih (by omega)
  rw[aboveL_succ hq];unfold oneOf at *;rw[List.any_append,ih];by_cases e:i=n
  ·subst e;rw[hi]at hq;injection hq with hq
   subst hq;cases ho:overAt l s i<;>simp
  ·have h1:(q.name.toList==p.name.toList)=false:=by
    rw[Bool.eq_false_iff];intro h2;exact e (names_one h hi hq (by simpa using h2:q.name.toList=p.name.toList).symm)
   have h2:decide (i<n+1)=decide (i<n):=by simp only[decide_eq_decide];omega
   rw[h2];cases ho:overAt l s n
   ·simp
   ·simp only[if_true,List.any_cons,List.any_nil,h1,Bool.or_false]
theorem above_one{l:List HuP}(h:ShipOk l)(s:ByteArray){p:HuP}(hi:l[i]?=some p):oneOf (aboveL l s l.length) p.name=overAt l s i:=by rw[above_to h s hi _ (lr _)];have:i<l.length:=(lG hi);simp[this]
theorem wf_bd{f:HuP→Int}{l:List HuP}(hf:∀p∈l,1≤f p∧f p≤1000000)(b:Nat→Bool):∀m,m≤l.length→0≤sumTo (wf f l) b m∧sumTo (wf f l) b m≤1000000*m:=by
 intro m;induction m with
 | zero=>intro _;exact⟨Int.le_refl _,by simp[sumTo]⟩
 | succ m ih =>
  intro hm;have ih:=ih (by omega)
  obtain⟨q,hq⟩:=gX (l:=l) (i:=m) (by omega)
  have h1:=hf q (mG ⟨m,hq⟩);simp only[sumTo,wf_at hq];split<;>constructor<;>omega
theorem wts_bd{l:List HuP}(h:ShipOk l):(∀p∈l,1≤p.wlo∧p.wlo≤1000000)∧∀p∈l,1≤p.whi∧p.whi≤1000000:=by
 constructor<;>intro p hp
 all_goals
  obtain⟨i,hi⟩:=List.mem_iff_getElem?.1 hp;have:=(h.part i p hi).wt;constructor<;>omega
theorem setTo_pos{b:Nat→Bool}{n:Nat}(hk:k<n)(hb:b k=true):0<setTo b n:=by
 have h:=setTo_bit b k n;rw[hb]at h;rcases Nat.eq_zero_or_pos (setTo b n)with h0 | h0
 ·rw[h0]at h;simp[hk]at h
 ·exact h0
theorem pull_above{l:List HuP}(h:ShipOk l)(hn:l.length≤8){x:HuP}(hk:l[k]?=some x)(hp:openPre (hullOf l) []=0){e:Ending}(hpost:PullPost (hullOf l) [] (setTo (inSet l k x.name) l.length:Nat) V e w') :
  BW V w'∧e=.returned (.tuple #[.agg #[iv (sumTo (wf HuP.wlo l) (inSet l k x.name) l.length),iv (sumTo (wf HuP.whi l) (inSet l k x.name) l.length)],iv 0]):=by
 have hkl:k<l.length:=(lG hk);obtain⟨h1,h2,_⟩:=hung_pull h hn (inSet l k x.name) (setTo_pos hkl (by simp[inSet])) hp hpost
 exact⟨h1,h2 (hung_above h hn hk)⟩
theorem pull_all{l:List HuP}(h:ShipOk l)(hn:l.length≤8)(h1:0<l.length)(hp:openPre (hullOf l) []=0){e:Ending}(hpost:PullPost (hullOf l) [] ((2^l.length-1:Nat):Int) V e w') :
  BW V w'∧(e=.returned (.tuple #[.agg #[iv (loWs 0 40 l),iv (hiWs 0 40 l)],iv 0])∨e=.returned (.tuple #[.agg #[iv 0,iv 0],iv 6])):=by
 rw[←setTo_all]at hpost;obtain⟨hb,h2,h3⟩:=hung_pull h hn (fun _=>true) (setTo_pos h1 rfl) hp hpost
 refine⟨hb, ?_⟩;cases hh:hangsB (jsTo l l.length) (setTo (fun _=>true) l.length)
 ·exact .inr (h3 hh)
 ·refine .inl ?_;rw[h2 hh,sum_all _ _ _ (lr _),sum_all _ _ _ (lr _),List.take_length,(ws_all h).1,(ws_all h).2]
theorem jsIn_len(l:List HuP)(i k:Nat):(jsIn l i k).length≤k:=by unfold jsIn;exact lT (List.length_filterMap_le _ _) (by simp)
theorem jsTo_len(l:List HuP):∀m,m≤12→(jsTo l m).length≤12*m
 | 0,_=>by simp[jsTo]
 | m+1,h=>by
  have h1:=jsTo_len l m (by omega)
  have h2:=jsIn_len l m m;rw[jsTo_succ,List.length_append];omega
theorem js_len(l:List HuP)(hi:i≤12)(hk:k≤i):(jsTo l i++jsIn l i k).length≤156:=by have h1:=jsTo_len l i hi;have h2:=jsIn_len l i k;rw[List.length_append];omega
end
section
variable{Q:Exit→Act→World→Prop}{n:Nat}{V:World}
noncomputable def ops3_23:Array Oper:=opsOf (regionOf Tryz.f3 23)
noncomputable def ops3_30:Array Oper:=opsOf (regionOf Tryz.f3 30)
noncomputable def ops3_34:Array Oper:=opsOf (regionOf Tryz.f3 34)
theorem goL{P:Program}{ops:Array Oper}{S:World→Prop}{late:Nat→Bool}{listed:Array Bool}{a:Act}{c:Code}{r:Nat}(hS:∀W,BW V W→S W)(h:∀V0,Hid (BW V V0)→S V0→wpAnyL P .any ops (NoPanic Q) S late n listed a V0)(hm:P.follows .mixedOrders=true:=by kernel_rfl)(hc:c=Code.region r ops true:=by kernel_rfl)(hn:ops.size=n:=by kernel_rfl)(hl:Array.replicate n false=listed:=by
   simp only[Array.replicate_succ,Array.replicate_zero,List.push_toArray,List.nil_append,List.cons_append];rfl):c.wp P Q a V:=by
 subst hc hl hn;have hb:=belowDq (bR V);exact wp_region_noPanic (wp_region_late hm (h _ (Lq hb) (hS _ hb)))
theorem reg3_34{g11 g12 m cP cJ c7:Nat}{JP JJ AW:Option Addr}{p q:Int}{C:Int→Int→Int→Prop}{zA zB zC zD zE zF zG zH zI zJ zK zN zO zP zQ zR zS zT zU zV zW zX zY zZ za zb zc zd ze zf zg zh zi zj zk zl zm zn zo zp zq zr zs zt zu zv zw zx zy zz zAA zAB zAC zAD zAE zAF zAG zAH zAI zAJ zAK zAL zAM zAN zAO zAP zAQ zAR zAS zAT zAU zAV zAW zAX zAY zAZ zAa zAb zAc zAd zAe zAf zAg zAh zAi zAj zAk zAl zAm zAn zAo zAp zAq zAr zAs zAt zAu zAv zAw zAx zAy zAz zBA zBB zBC zBD zBE zBF zBG zBH zBI zBJ zBK zBL zBM zBN zBO zBP zBQ zBR zBS zBT zBU zBV zBW zBX zBY zBZ zBa zBb zBc zBd zBe zBf zBg zBh zBi zBj zBk zBl zBm zBn zBo zBp zBq zBr zBs zBt zBu zBv zBw zBx zBy zBz zCA zCB zCC zCD zCE zCF zCG zCH zCI zCJ zCK zCL zCM zCN zCO zCP zCQ zCR zCS zCT zCU zCV zCW zCX zCY zCZ zCa zCb zCc zCd zCe zCf zCg zCh zCi zCj zCk zCl zCm zCn zCo zCp zCq zCr zCs zCt zCu zCv zCw zCx zCy zCz zDA zDB zDC zDD zDE zDF zDG zDH zDI zDJ zDK zDL zDM zDN zDO zDP zDQ zDR zDS zDT:Value}(hq:IntKind.i64.wrap (p-1)=q)(HT:Hid (∀W,Cs 11 #[iv n] W fun e w'=>e=.returned (iv p)∧W=w'))(HP:Hid (∀W,BW V W→Cs 12 #[.agg #[.slice JP n cP,.slice JJ m cJ,iv 1000,iv 1000,iv 1],.slice none 0 0,iv q] W fun e w'=>∃x y r,e=.returned (.tuple #[.agg #[iv x,iv y],iv r])∧C x y r∧BW W w'))(HS:Hid (∀W,BW V W→cA W g12 0 (.slice JP n cP)∧cA W g12 1 (.slice JJ m cJ)∧cA W g12 2 (iv 1000)∧cA W g12 3 (iv 1000)∧cA W g12 4 (iv 1)∧cA W g11 0 (.slice AW n c7)))(HQ:Hid (∀(gn:Nat) (x y r:Int) u192 u193 u194 u195 u196 u197 u198 u191 u199 u200 wx,(V.heap.size≤gn∧BW V wx∧Blk wx gn 36 #[iv x,iv y]∧C x y r)→Q .normal ⟨(zA::zB::zC::zD::zE::zF::zG::zH::zI::zJ::zK::(.pointer (some ⟨g11,0,none⟩))::(.pointer (some ⟨g12,0,none⟩))::zN::zO::zP::zQ::zR::zS::zT::zU::zV::zW::zX::zY::zZ::za::(.pointer (some ⟨gn,0,none⟩))::(iv r)::zd::ze::zf::zg::zh::zi::zj::zk::zl::zm::zn::zo::zp::zq::zr::zs::zt::zu::zv::zw::zx::zy::zz::zAA::zAB::zAC::zAD::zAE::zAF::zAG::zAH::zAI::zAJ::zAK::zAL::zAM::zAN::zAO::zAP::zAQ::zAR::zAS::zAT::zAU::zAV::zAW::zAX::zAY::zAZ::zAa::zAb::zAc::zAd::zAe::zAf::zAg::zAh::zAi::zAj::zAk::zAl::zAm::zAn::zAo::zAp::zAq::zAr::zAs::zAt::zAu::zAv::zAw::zAx::zAy::zAz::zBA::zBB::zBC::zBD::zBE::zBF::zBG::zBH::zBI::zBJ::zBK::zBL::zBM::zBN::zBO::zBP::zBQ::zBR::zBS::zBT::zBU::zBV::zBW::zBX::zBY::zBZ::zBa::zBb::zBc::zBd::zBe::zBf::zBg::zBh::zBi::zBj::zBk::zBl::zBm::zBn::zBo::zBp::zBq::zBr::zBs::zBt::zBu::zBv::zBw::zBx::zBy::zBz::zCA::zCB::zCC::zCD::zCE::zCF::zCG::zCH::zCI::zCJ::zCK::zCL::zCM::zCN::zCO::zCP::zCQ::zCR::zCS::zCT::zCU::zCV::zCW::zCX::zCY::zCZ::zCa::zCb::zCc::zCd::zCe::zCf::zCg::zCh::zCi::u191::u192::u193::u194::u195::u196::u197::u198::u199::u200::zCt::zCu::zCv::zCw::zCx::zCy::zCz::zDA::zDB::zDC::zDD::zDE::zDF::zDG::zDH::zDI::zDJ::zDK::zDL::zDM::zDN::zDO::zDP::zDQ::zDR::zDS::zDT::[]:List Value).toArray,[]⟩ wx)) :
  (regionOf Tryz.f3 34).wp Tryz.prog Q ⟨(zA::zB::zC::zD::zE::zF::zG::zH::zI::zJ::zK::(.pointer (some ⟨g11,0,none⟩))::(.pointer (some ⟨g12,0,none⟩))::zN::zO::zP::zQ::zR::zS::zT::zU::zV::zW::zX::zY::zZ::za::zb::zc::zd::ze::zf::zg::zh::zi::zj::zk::zl::zm::zn::zo::zp::zq::zr::zs::zt::zu::zv::zw::zx::zy::zz::zAA::zAB::zAC::zAD::zAE::zAF::zAG::zAH::zAI::zAJ::zAK::zAL::zAM::zAN::zAO::zAP::zAQ::zAR::zAS::zAT::zAU::zAV::zAW::zAX::zAY::zAZ::zAa::zAb::zAc::zAd::zAe::zAf::zAg::zAh::zAi::zAj::zAk::zAl::zAm::zAn::zAo::zAp::zAq::zAr::zAs::zAt::zAu::zAv::zAw::zAx::zAy::zAz::zBA::zBB::zBC::zBD::zBE::zBF::zBG::zBH::zBI::zBJ::zBK::zBL::zBM::zBN::zBO::zBP::zBQ::zBR::zBS::zBT::zBU::zBV::zBW::zBX::zBY::zBZ::zBa::zBb::zBc::zBd::zBe::zBf::zBg::zBh::zBi::zBj::zBk::zBl::zBm::zBn::zBo::zBp::zBq::zBr::zBs::zBt::zBu::zBv::zBw::zBx::zBy::zBz::zCA::zCB::zCC::zCD::zCE::zCF::zCG::zCH::zCI::zCJ::zCK::zCL::zCM::zCN::zCO::zCP::zCQ::zCR::zCS::zCT::zCU::zCV::zCW::zCX::zCY::zCZ::zCa::zCb::zCc::zCd::zCe::zCf::zCg::zCh::zCi::zCj::zCk::zCl::zCm::zCn::zCo::zCp::zCq::zCr::zCs::zCt::zCu::zCv::zCw::zCx::zCy::zCz::zDA::zDB::zDC::zDD::zDE::zDF::zDG::zDH::zDI::zDJ::zDK::zDL::zDM::zDN::zDO::zDP::zDQ::zDR::zDS::zDT::[]:List Value).toArray,[]⟩ V:=by
 refine go0 (S:=fun W=>cA W g12 0 (.slice JP n cP)∧cA W g12 1 (.slice JJ m cJ)∧cA W g12 2 (iv 1000)∧cA W g12 3 (iv 1000)∧cA W g12 4 (iv 1)∧cA W g11 0 (.slice AW n c7)) (ops:=ops3_34) (r:=34) (n:=13) HS.out fun V0 HB0 hHeld=>?_
 refine tk 0 (.agg #[.slice JP n cP,.slice JJ m cJ,iv 1000,iv 1000,iv 1]) ?_;refine tk 1 (.pointer (some ⟨g11,0,none⟩)) ?_;refine tk 2 (.slice AW n c7) ?_;refine tk 3 (iv n) ?_;refine rd2 4 10 (fun K' hK=>?_) fun K' hK=>?_
 ·skip;go_simp;refine(HT.out _).mono ?_;rintro e wc ⟨rfl,rfl⟩;refine hK.out _ _ (HS.out _ HB0.out) (fun hHeld=>?_)
  clear hK;refine tk 5 (iv q) ?_;refine rd2 6 10 (fun K' hK=>?_) fun K' hK=>?_
  ·skip;go_simp;refine(HP.out _ HB0.out).mono ?_;rintro e w1 ⟨x,y,r,rfl,hc,hb⟩;have HB1:=Lq (bT HB0.out hb);have HC:=Lq hc;clear hb hc;refine hK.out _ _ (HS.out _ HB1.out) (fun hHeld=>?_)
   clear hK;refine tk 7 (.tuple #[.agg #[iv x,iv y],iv r]) ?_;refine tk 8 (.agg #[iv x,iv y]) ?_;refine tk 9 (iv r) ?_;refine rd1 10 fun K' hK=>?_
   go_simp;have K2:=Lq (Blk.new w1 36 #[iv 0,iv 0]);have HB2:=Lq (bA HB1.out (.cells #[iv 0,iv 0] 36));have hgn:V.heap.size≤w1.heap.size:=HB1.out.size;generalize w1.alloc (.cells #[iv 0,iv 0] 36)=w2 at K2 HB2 ⊢;generalize w1.heap.size=gn at K2 hgn ⊢;refine hK.out _ _ (HS.out _ HB2.out) (fun hHeld=>?_)
   clear hK;refine rd1 11 fun K' hK=>?_
   obtain⟨zA,zB⟩:=K2.out.c2;obtain⟨f0,f1⟩:=K2.out.f2;have hl:=K2.out.lt;go_simp;have KX:=Lq ((K2.out.set_ 0 (iv x)).set_ 1 (iv y));have HBX:=Lq (belowS (belowS HB2.out hgn (p:=⟨gn,0,none⟩) (iv x)) hgn (p:=⟨gn,1,none⟩) (iv y));simp only[List.setIfInBounds_toArray,List.set_cons_zero,List.set_cons_succ]at KX;refine hK.out _ _ (HS.out _ HBX.out) (fun hHeld=>?_)
   clear zA zB f0 f1 hl;clear hK;refine tk 12 (iv r) ?_;refine wpAnyH_done (by kernel_rfl) ?_ _
   exact NoPanic.normal (HQ.out gn x y r _ _ _ _ _ _ _ _ _ _ _ ⟨hgn,HBX.out,KX.out,HC.out⟩)
  ·skip;go_simp;have K3:=Lq (Blk.new V0 36 #[iv 0,iv 0]);have HB3:=Lq (bA HB0.out (.cells #[iv 0,iv 0] 36));have hgn:V.heap.size≤V0.heap.size:=HB0.out.size;generalize V0.alloc (.cells #[iv 0,iv 0] 36)=w3 at K3 HB3 ⊢;generalize V0.heap.size=gn at K3 hgn ⊢;refine hK.out _ _ (HS.out _ HB3.out) (fun hHeld=>?_)
   clear hK;refine rd1 6 fun K' hK=>?_
   go_simp;refine(HP.out _ HB3.out).mono ?_;rintro e w4 ⟨x,y,r,rfl,hc,hb⟩;have HB4:=Lq (bT HB3.out hb);have HC:=Lq hc;have K4:=Lq (K3.out.keep hb);clear K3;clear hb hc;refine hK.out _ _ (HS.out _ HB4.out) (fun hHeld=>?_)
   clear hK;refine tk 7 (.tuple #[.agg #[iv x,iv y],iv r]) ?_;refine tk 8 (.agg #[iv x,iv y]) ?_;refine tk 9 (iv r) ?_;refine rd1 11 fun K' hK=>?_
   obtain⟨zA,zB⟩:=K4.out.c2;obtain⟨f0,f1⟩:=K4.out.f2;have hl:=K4.out.lt;go_simp;have KX:=Lq ((K4.out.set_ 0 (iv x)).set_ 1 (iv y));have HBX:=Lq (belowS (belowS HB4.out hgn (p:=⟨gn,0,none⟩) (iv x)) hgn (p:=⟨gn,1,none⟩) (iv y));simp only[List.setIfInBounds_toArray,List.set_cons_zero,List.set_cons_succ]at KX;refine hK.out _ _ (HS.out _ HBX.out) (fun hHeld=>?_)
   clear zA zB f0 f1 hl;clear hK;refine tk 12 (iv r) ?_;refine wpAnyH_done (by kernel_rfl) ?_ _
   exact NoPanic.normal (HQ.out gn x y r _ _ _ _ _ _ _ _ _ _ _ ⟨hgn,HBX.out,KX.out,HC.out⟩)
 ·skip;go_simp;have K5:=Lq (Blk.new V0 36 #[iv 0,iv 0]);have HB5:=Lq (bA HB0.out (.cells #[iv 0,iv 0] 36));have hgn:V.heap.size≤V0.heap.size:=HB0.out.size;generalize V0.alloc (.cells #[iv 0,iv 0] 36)=w5 at K5 HB5 ⊢;generalize V0.heap.size=gn at K5 hgn ⊢;refine hK.out _ _ (HS.out _ HB5.out) (fun hHeld=>?_)
  clear hK;refine rd1 4 fun K' hK=>?_
  go_simp;refine(HT.out _).mono ?_;rintro e wc ⟨rfl,rfl⟩;refine hK.out _ _ (HS.out _ HB5.out) (fun hHeld=>?_)
  clear hK;refine tk 5 (iv q) ?_;refine rd1 6 fun K' hK=>?_
  go_simp;refine(HP.out _ HB5.out).mono ?_;rintro e w6 ⟨x,y,r,rfl,hc,hb⟩;have HB6:=Lq (bT HB5.out hb);have HC:=Lq hc;have K6:=Lq (K5.out.keep hb);clear K5;clear hb hc;refine hK.out _ _ (HS.out _ HB6.out) (fun hHeld=>?_)
  clear hK;refine tk 7 (.tuple #[.agg #[iv x,iv y],iv r]) ?_;refine tk 8 (.agg #[iv x,iv y]) ?_;refine tk 9 (iv r) ?_;refine rd1 11 fun K' hK=>?_
  obtain⟨zA,zB⟩:=K6.out.c2;obtain⟨f0,f1⟩:=K6.out.f2;have hl:=K6.out.lt;go_simp;have KX:=Lq ((K6.out.set_ 0 (iv x)).set_ 1 (iv y));have HBX:=Lq (belowS (belowS HB6.out hgn (p:=⟨gn,0,none⟩) (iv x)) hgn (p:=⟨gn,1,none⟩) (iv y));simp only[List.setIfInBounds_toArray,List.set_cons_zero,List.set_cons_succ]at KX;refine hK.out _ _ (HS.out _ HBX.out) (fun hHeld=>?_)
  clear zA zB f0 f1 hl;clear hK;refine tk 12 (iv r) ?_;refine wpAnyH_done (by kernel_rfl) ?_ _
  exact NoPanic.normal (HQ.out gn x y r _ _ _ _ _ _ _ _ _ _ _ ⟨hgn,HBX.out,KX.out,HC.out⟩)
end
end Go.Proofs.YtigcophcpboanaaGreatDoor
