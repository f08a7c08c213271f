/- TopLaden's own walk (printed by mkHF3.py). The law's arguments, opened: a plan, a beach, a day and numbers (printed by mkHF7.py). -/
import Derived.Deep.DeepCutAuto
import Derived.ProofKit
import Derived.OpenShut
import Derived.JoinedOf
import Derived.Deep.Strs
import Derived.Deep.Slices
import Derived.Lib.SmallJoins
import Derived.Test.YtpgfldcoojfheaaGreatDoorRows
import Derived.Test.YtpgfldcoojfheaaGreatDoorM0
import Derived.Test.YtpgfldcoojfheaaGreatDoorM4
import Derived.Test.YtpgfldcoojfheaaGreatDoorM15
import Derived.Test.YtpgfldcoojfheaaGreatDoorM17
import Derived.Test.YtpgfldcoojfheaaGreatDoorM18
import Derived.Test.YtpgfldcoojfheaaGreatDoorM20
import Derived.Test.YtpgfldcoojfheaaGreatDoorM31
import Derived.Test.YtpgfldcoojfheaaGreatDoorM34
set_option maxRecDepth 1000000
set_option maxHeartbeats 16000000
namespace Go.Proofs.YtpgfldcoojfheaaGreatDoor
open Go.RowKit
theorem slC_nil (w : World) (B : Nat) : SlC w B none 0 []:=⟨fun i x h=>by simp at h,fun c h=>by simp at h,Nat.le_refl _,by decide⟩
def takeM (s : ByteArray) : HcM:=⟨2,0,s,⟨noPart,none,0⟩⟩
theorem slC_take {w : World} {B g : Nat} {s : ByteArray} (hg : g < B) (hs : s.size ≤ maxLen) (h : Blk w g 49 #[iv 2,iv 0,.string s,.string { data:=#[] },iv 0,iv 0,iv 0,.slice none 0 0,iv 0,iv 0]) : SlC w B (some ⟨g,0,none⟩) 1 [takeM s]:=by
 refine ⟨fun i x hx=>?_,fun c hc=>?_,Nat.le_refl _,by decide⟩
 ·match i,hx with
  | 0,hx =>
   injection hx with hx
   subst hx;refine ⟨g,0,rfl,hg,fun j u hu=>?_⟩
   have e : w.cell? ⟨g,j,none⟩ = (#[iv 2,iv 0,.string s,.string { data:=#[] },iv 0,iv 0,iv 0,.slice none 0 0,iv 0,iv 0] : Array Value)[j]?:=h.cell j;simp only [Nat.zero_mul,Nat.zero_add];have ea : (#[iv 2,iv 0,.string s,.string { data:=#[] },iv 0,iv 0,iv 0,.slice none 0 0,iv 0,iv 0] : Array Value) = (encC (takeM s)).toArray:=rfl;rw [e,ea,List.getElem?_toArray];exact hu
 ·obtain rfl : c = takeM s:=by simpa using hc
  refine ⟨⟨fun i x hx=>by simp [takeM,noPart] at hx,Nat.le_refl _,(by decide : 0 ≤ maxLen),(by decide : ByteArray.empty.size ≤ maxLen),fun o ho=>by simp [takeM,noPart] at ho,(by decide : 0 * 16 ≤ 140737488351232)⟩,hs⟩
theorem topLaden_any (A C AT : Option Addr) (ms : List HuM) (cs : List HcM) (ts : List TdT) (cap capc capt : Nat) (b : TdB) (xd xt xk xi xb mm : Int) (w : World)
  (HM : SlM w w.heap.size A cap ms) (HC : SlC w w.heap.size C capc cs) (HW : ∀ c ∈ cs,Lit.wf (.int .i64 c.what) = true) (HT : TsRd w w.heap.size AT capt ts)
  (hxd : 0 ≤ xd ∧ xd ≤ 65535) (hxt : 0 ≤ xt ∧ xt ≤ 65535) (hxk : 0 ≤ xk ∧ xk ≤ 255) (hxi : 0 ≤ xi ∧ xi ≤ 255) (hxb : 0 ≤ xb ∧ xb ≤ 255) (HP : PowTab w) (HL : w.cell? ⟨0,0,none⟩ = some (.int .i64 mm)) :
  Calls Tryz.prog 3 #[.agg #[.slice A ms.length cap,.slice C cs.length capc],.agg #[iv b.slo,iv b.shi,iv b.mlo,iv b.mhi,iv b.bite,.slice AT ts.length capt],.agg #[.int .u16 xd,.int .u16 xt,.int .u8 xk,.int .u8 xi,.int .u8 xb]] w (Rt w (.bool true)):=by
 obtain ⟨W1,hW1⟩:=ex (w.alloc (.cells #[.slice A ms.length cap,.slice C cs.length capc] 27));obtain ⟨W2,hW2⟩:=ex (W1.alloc (.cells #[iv b.slo,iv b.shi,iv b.mlo,iv b.mhi,iv b.bite,.slice AT ts.length capt] 32));obtain ⟨W3,hW3⟩:=ex (W2.alloc (.cells #[.int .u16 xd,.int .u16 xt,.int .u8 xk,.int .u8 xi,.int .u8 xb] 35));obtain ⟨gp,hgp⟩:=ex w.heap.size;obtain ⟨gb,hgb⟩:=ex W1.heap.size;obtain ⟨gx,hgx⟩:=ex W2.heap.size;have b1 : BW w W1:=by rw [← hW1]; exact belowA (belowR w) _
 have b2 : BW W1 W2:=by rw [← hW2]; exact belowA (belowR _) _
 have b3 : BW W2 W3:=by rw [← hW3]; exact belowA (belowR _) _
 have q1 : Blk W1 gp 27 #[.slice A ms.length cap,.slice C cs.length capc]:=by rw [← hW1,← hgp]; exact Blk.new w 27 _
 have q2 : Blk W2 gb 32 #[iv b.slo,iv b.shi,iv b.mlo,iv b.mhi,iv b.bite,.slice AT ts.length capt]:=by rw [← hW2,← hgb]; exact Blk.new W1 32 _
 have q3 : Blk W3 gx 35 #[.int .u16 xd,.int .u16 xt,.int .u8 xk,.int .u8 xi,.int .u8 xb]:=by rw [← hW3,← hgx]; exact Blk.new W2 35 _
 have q13:=q1.keep (belowT b2 b3);have q23:=q2.keep b3;have b03:=belowT b1 (belowT b2 b3);have HB3:=Lq b03;have HQP : Hid (∀ W,BW W3 W → Blk W gp 27 #[.slice A ms.length cap,.slice C cs.length capc]):=Lq fun W hb=>q13.keep hb
 have HQB : Hid (∀ W,BW W3 W → Blk W gb 32 #[iv b.slo,iv b.shi,iv b.mlo,iv b.mhi,iv b.bite,.slice AT ts.length capt]):=Lq fun W hb=>q23.keep hb
 have HQX : Hid (∀ W,BW W3 W → Blk W gx 35 #[.int .u16 xd,.int .u16 xt,.int .u8 xk,.int .u8 xi,.int .u8 xb]):=Lq fun W hb=>q3.keep hb
 have HAW6 : Hid (∀ W,BW w W → Calls Tryz.prog 6 #[] W (Rt W (.bool true))):=Lq fun W hb=>awake6_any mm W (HP.below hb (Nat.le_refl _)) (keepC hb HL)
 have HAW7 : Hid (∀ W,Calls Tryz.prog 7 #[] W (Rt W (.bool true))):=Lq awake7_any;have HC4 : Hid (Calls Tryz.prog 4 #[.agg #[.slice A ms.length cap,.slice C cs.length capc]] W3 (Chk3 (PlanOk (psOf ms) (csOf cs)) W3)):=Lq (check4_any A C ms cs w.heap.size cap capc W3 b03.size (HM.below b03 (Nat.le_refl _)) (HC.below b03 (Nat.le_refl _)));have HMM : Hid (∀ W,BW w W → SlM W w.heap.size A cap ms ∧ SlC W w.heap.size C capc cs ∧ TsRd W w.heap.size AT capt ts):=Lq fun W hb=>⟨HM.below hb (Nat.le_refl _),HC.below hb (Nat.le_refl _),HT.below hb (Nat.le_refl _)⟩
 have HWW:=Lq HW;have x0:=q13.c 0;have x1:=q13.c 1;clear HM HC HW HT HP HL b1 b2 b3 q1 q2 q3 q13 q23 b03;go_enter Tryz.func3,Tryz.ntmps3
 go_wp2_with fail
 clear hW1 hW2 hW3 hgp hgb hgx;refine HC4.out.mono ?_;rintro e w4 ⟨p1,i1,r1,rfl,hiff,hb⟩;have HR1:=Lq hiff;have X4:=Lq hb;have Y4:=Lq (belowT HB3.out hb);have HC5 : Hid (Calls Tryz.prog 5 #[.agg #[iv b.slo,iv b.shi,iv b.mlo,iv b.mhi,iv b.bite,.slice AT ts.length capt],.agg #[iv 0,iv 0,iv 0]] w4 (Chk3 (BeachOk b ts) w4)):=Lq (check5_any AT ts capt b w4 (((HMM.out _ Y4.out).2.2).more Y4.out.size));have z:=HQB.out _ hb;obtain ⟨z0,z1,z2,z3,z4,z5⟩:=z.c6;clear z hb hiff x0 x1 HC4;go_wp2_with fail
 clear z0 z1 z2 z3 z4 z5;refine HC5.out.mono ?_;rintro e w5 ⟨p2,i2,r2,rfl,hiff,hb⟩;have HR2:=Lq hiff;have X5:=Lq (belowT X4.out hb);have Y5:=Lq (belowT HB3.out X5.out);clear hb hiff HC5 X4 Y4;by_cases h1 : r1 = 0
 case neg =>
  have h1b : (r1 != 0) = true:=by simpa using h1
  go_wp2_with fail
  refine (HAW6.out _ Y5.out).mono ?_;rintro e v8 ⟨rfl,hb⟩;have Y8:=Lq (belowT Y5.out hb);clear hb;go_wp2_with fail
  refine (HAW7.out _).mono ?_;rintro e v9 ⟨rfl,hb⟩;have Y9:=Lq (belowT Y8.out hb);clear hb;go_wp2_with fail
  go_ret
  exact ⟨rfl,Y9.out⟩
 subst h1;by_cases h2 : r2 = 0
 case neg =>
  have h2b : (r2 != 0) = true:=by simpa using h2
  go_wp2_with fail
  refine (HAW6.out _ Y5.out).mono ?_;rintro e v8 ⟨rfl,hb⟩;have Y8:=Lq (belowT Y5.out hb);clear hb;go_wp2_with fail
  refine (HAW7.out _).mono ?_;rintro e v9 ⟨rfl,hb⟩;have Y9:=Lq (belowT Y8.out hb);clear hb;go_wp2_with fail
  go_ret
  exact ⟨rfl,Y9.out⟩
 subst h2;have HPL:=Lq (HR1.out.1 rfl);have HBE:=Lq (HR2.out.1 rfl);clear HR1 HR2;have z:=HQX.out _ X5.out;obtain ⟨z0,z1⟩:=z.c2;clear z;go_wp2_with fail
 go_quiet (fail)
 obtain ⟨dy,hdy⟩:=ex (xd % 40001);obtain ⟨tn,htn⟩:=ex (1 + xt);have hdy0 : 0 ≤ dy ∧ dy ≤ 40000:=by omega
 have htn0 : 1 ≤ tn ∧ tn ≤ 65536:=by omega
 have hdb : inB 0 40000 dy = true:=by unfold inB; simp; omega
 have HDB:=Lq hdb;obtain ⟨W6,hW6⟩:=ex (w5.drewN nq);have hX6 : BW W3 W6:=by rw [← hW6]; exact belowN X5.out nq
 rw [hdy,htn,hW6];have X6:=Lq hX6;have Y6:=Lq (belowT HB3.out hX6);have HS8 : Hid (Calls Tryz.prog 8 #[.agg #[.slice A ms.length cap,.slice C cs.length capc],iv dy] W6 (OpenPost ms cs dy W6)):=Lq (ship8_any A C ms cs w.heap.size cap capc dy W6 Y6.out.size (HMM.out _ Y6.out).1 (HMM.out _ Y6.out).2.1 HWW.out);have z:=HQP.out _ hX6;obtain ⟨x0,x1⟩:=z.c2;clear z z0 z1 hX6 hW6 hdy htn hdb;go_wp2_with fail
 clear x0 x1;refine HS8.out.mono ?_;rintro e w7 ⟨r,A7,n7,c7,rfl,hb,hiff,hyes⟩;obtain rfl : r = 0:=hiff.2 ⟨HPL.out,HDB.out⟩;obtain ⟨whole,rfl,hpo,hsl⟩:=hyes rfl;clear hiff hyes;obtain ⟨Wa,W8,hWa,hW8,hb8,hqa,hba,hq8⟩:=oneMade w7 24 (.slice none 0 0) (.slice A7 whole.length c7);obtain ⟨g15,hg15⟩:=ex w7.heap.size;rw [hg15] at hW8 hqa hq8;have hbx:=belowT X6.out (belowT hb hb8);have X8:=Lq hbx;have HQ15:=Lq hq8;have HSL:=Lq ((hsl.below hb8 (Nat.le_refl _)).more hb8.size);have HPO:=Lq hpo;have HSO : Hid (ShipOk (psOf whole)):=Lq (hpo ▸ shipOn_ok HPL.out dy);have HG15 : Hid (W3.heap.size ≤ g15):=Lq (by rw [← hg15]; exact (belowT X6.out hb).size)
 have af:=hqa.frozen 0;have ac:=hqa.c 0;have al:=hqa.lt;have d0:=hq8.c 0;clear hb hpo hsl hb8 hqa hba hq8 hbx HS8;have Y8:=Lq (belowT HB3.out X8.out);have a0 : 0 ≤ (whole.length : Int):=by omega
 by_cases h0 : whole.length = 0
 ·obtain rfl : whole = []:=List.length_eq_zero_iff.1 h0;simp only [List.length_nil] at hW8 d0;have Y8r : Hid (BW w (Wa.setCell ⟨g15,0,none⟩ (.slice A7 0 c7))):=Lq (by rw [hW8]; exact Y8.out)
  clear h0 a0 hW8;go_wp2_with fail
  refine (HAW6.out _ Y8r.out).mono ?_;rintro e v8 ⟨rfl,hb⟩;have Y8:=Lq (belowT Y8r.out hb);clear hb;go_wp2_with fail
  refine (HAW7.out _).mono ?_;rintro e v9 ⟨rfl,hb⟩;have Y9:=Lq (belowT Y8.out hb);clear hb;go_wp2_with fail
  go_ret
  exact ⟨rfl,Y9.out⟩
 have h0b : ((whole.length : Int) == 0) = false:=by simpa using h0
 go_wp2_with fail
 clear af ac al hWa hW8 hg15;obtain ⟨k,hk⟩ : ∃ k : Nat,xk % (whole.length : Int) = (k : Int):=⟨(xk % (whole.length : Int)).toNat,(Int.toNat_of_nonneg (Int.emod_nonneg _ (by omega))).symm⟩
 have hkl : k < whole.length:=by have:=Int.emod_lt_of_pos xk (show 0 < (whole.length : Int) by omega); omega
 have hkz : (k : Int) < (whole.length : Int):=by omega
 have hk0 : (0 : Int) ≤ (k : Int):=by omega
 obtain ⟨y,hy⟩ : ∃ x,whole[k]? = some x:=⟨_,List.getElem?_eq_getElem hkl⟩;obtain ⟨b7,o7,rfl,hb7,hMy,c0,c9⟩:=HSL.out.rd.at hy;obtain ⟨nm,hnm⟩:=ex y.p.name;rw [hnm] at c0;have HNM : Hid (nm.size ≤ maxLen):=Lq (hnm ▸ hMy.nm);have HHN : Hid (hasP (psOf whole) nm = true):=Lq (hasP_iff.2 ⟨y.p,List.mem_iff_getElem?.2 ⟨k,ps_at hy⟩,by rw [hnm]⟩)
 have z:=HQX.out _ X8.out;have x2:=z.c 2;have ln0 : ((whole.length : Int) = 0) = False:=eq_false (by omega)
 have kt : xk.tmod (whole.length : Int) = (k : Int):=by rw [← hk]; exact Int.tmod_eq_emod_of_nonneg hxk.1
 clear z hMy hy hnm c9;go_quiet (fail)
 obtain ⟨W11,hW11⟩:=ex (W8.drewN nq);have hX11 : BW W8 W11:=by rw [← hW11]; exact belowN (belowR _) nq
 rw [hW11];clear c0 x2 d0 kt ln0 hW11;have q15:=HQ15.out.keep hX11;have d0:=q15.c 0;obtain ⟨W12,hW12⟩:=ex (W11.alloc (.cells #[iv 2,iv 0,.string nm,.string { data:=#[] },iv 0,iv 0,iv 0,.slice none 0 0,iv 0,iv 0] 49));have hX12 : BW W11 W12:=by rw [← hW12]; exact belowA (belowR _) _
 have q16 : Blk W12 W11.heap.size 49 #[iv 2,iv 0,.string nm,.string ByteArray.empty,iv 0,iv 0,iv 0,.slice none 0 0,iv 0,iv 0]:=by rw [← hW12]; exact Blk.new W11 49 _
 obtain ⟨g16,hg16⟩:=ex W11.heap.size;rw [hg16] at q16;obtain ⟨Wb,W13,hWb,hW13,hb13,hqb,hbb,hq13⟩:=twoMade W12 27 (.slice none 0 0) (.slice none 0 0) (.slice (some ⟨b7,o7,none⟩) whole.length c7) (.slice (some ⟨g16,0,none⟩) 1 1);obtain ⟨g17,hg17⟩:=ex W12.heap.size;rw [hg17] at hW13 hqb hq13;have bf0:=hqb.frozen 0;have bf1:=hqb.frozen 1;have bc0:=hqb.c 0;have bc1:=hqb.c 1;have bl:=hqb.lt;have hd15 : W13.cell? ⟨g15,0,none⟩ = some (.slice (some ⟨b7,o7,none⟩) whole.length c7):=(q15.keep (belowT hX12 hb13)).c 0;have X13:=Lq (belowT hX11 (belowT hX12 hb13));have Y13:=Lq (belowT Y8.out X13.out);have HQ16 : Hid (∀ W,BW W13 W → Blk W g16 49 #[iv 2,iv 0,.string nm,.string { data:=#[] },iv 0,iv 0,iv 0,.slice none 0 0,iv 0,iv 0]):=Lq fun W hb=>q16.keep (belowT hb13 hb)
 have HQ17 : Hid (∀ W,BW W13 W → Blk W g17 27 #[.slice (some ⟨b7,o7,none⟩) whole.length c7,.slice (some ⟨g16,0,none⟩) 1 1]):=Lq fun W hb=>hq13.keep hb
 have HSW : Hid (∀ W,BW W13 W → SlM W W13.heap.size (some ⟨b7,o7,none⟩) c7 whole):=Lq fun W hb=>(HSL.out.below (belowT X13.out hb) (Nat.le_refl _)).more X13.out.size
 have HG16 : Hid (g16 < W13.heap.size):=Lq (q16.keep hb13).lt;have HAB : Hid (Calls Tryz.prog 9 #[.agg #[.slice (some ⟨b7,o7,none⟩) whole.length c7,.slice none 0 0],iv 0,.string nm] W13 (AbovePost whole [] 0 nm W13)):=Lq (above9_any (some ⟨b7,o7,none⟩) none whole [] W13.heap.size c7 0 0 nm W13 (Nat.le_refl _) (HSW.out _ (belowR _)) (slC_nil _ _) (fun c h=>by simp at h))
 go_wp2_with fail
 clear bf0 bf1 bc0 bc1 bl hd15 d0 hWb hW13 hg17 hg16 hW12 hqb hbb hq13 hb13 q16 hX12 hX11 q15 hb7 hk hkl hkz hk0;refine HAB.out.mono ?_;rintro e w14 ⟨va,ra,na,la,rfl,hb,hrow,hna,hiff,hyes,hno⟩;obtain ⟨Av,cv,rfl⟩:=own_slice hrow;have X14:=Lq hb;have Y14:=Lq (belowT Y13.out hb);obtain rfl : ra = 0:=hiff.2 ⟨⟨plan_nil.2 HSO.out,by decide⟩,HHN.out⟩
 have HLA:=Lq (hyes rfl);have HNA:=Lq hna;clear hb hrow hyes hno hiff HAB hna;have HWL : Hid (Calls Tryz.prog 10 #[.agg #[.slice (some ⟨b7,o7,none⟩) whole.length c7,.slice (some ⟨g16,0,none⟩) 1 1],iv 0,iv 0,iv 40] w14 (WeighPost2 whole [takeM nm] 0 0 40 w14)):=Lq (weigh10_all (some ⟨b7,o7,none⟩) (some ⟨g16,0,none⟩) whole [takeM nm] W13.heap.size c7 1 0 0 40 w14 X14.out.size (HSW.out _ X14.out) (slC_take HG16.out HNM.out (HQ16.out _ X14.out)) (fun c h=>by
  obtain rfl : c = takeM nm:=by simpa using h
  exact (by decide : Lit.wf (.int .i64 2) = true)))
 have z:=HQ17.out _ X14.out;obtain ⟨x0,x1⟩:=z.c2;clear z;go_wp2_with fail
 clear x0 x1;refine HWL.out.mono ?_;rintro e w15 ⟨lo1,hi1,r1,rfl,hb,hiff,hyes,hcd⟩;have HC15:=Lq hiff;have HV15:=Lq hyes;have HD15:=Lq hcd;obtain ⟨Wc,W16,hWc,hW16,hb16,hqc,hbc,hq16⟩:=twoMade w15 29 (iv 0) (iv 0) (iv lo1) (iv hi1);obtain ⟨g19,hg19⟩:=ex w15.heap.size;rw [hg19] at hW16 hqc hq16;have X16:=Lq (belowT X14.out (belowT hb hb16));have Y16:=Lq (belowT Y13.out X16.out);have HQ19:=Lq hq16;have hg19l : g19 < W16.heap.size:=hq16.lt;have z:=HQP.out _ (belowT X8.out (belowT X13.out X16.out));obtain ⟨x0,x1⟩:=z.c2;have bf0:=hqc.frozen 0;have bf1:=hqc.frozen 1;have bc0:=hqc.c 0;have bc1:=hqc.c 1;have bl:=hqc.lt;have HWP : Hid (Calls Tryz.prog 10 #[.agg #[.slice A ms.length cap,.slice C cs.length capc],iv dy,iv 0,iv 40] W16 (WeighPost ms cs dy 0 40 W16)):=Lq (weigh10_any A C ms cs w.heap.size cap capc dy 0 40 W16 Y16.out.size (HMM.out _ Y16.out).1 (HMM.out _ Y16.out).2.1 HWW.out);clear z hb hiff hyes hcd hb16 hqc hbc hq16 HWL;go_wp2_with fail
 clear x0 x1 bf0 bf1 bc0 bc1 bl hWc hW16 hg19;refine HWP.out.mono ?_;rintro e w17 ⟨lo2,hi2,r9,rfl,hb,hiff,hyes⟩;obtain rfl : r9 = 0:=hiff.2 ⟨⟨HPL.out,HDB.out⟩,by decide,by decide⟩
 obtain ⟨rfl,rfl⟩:=hyes rfl;rw [← HPO.out] at *;obtain ⟨lo2,hlo2⟩:=ex (loWs 0 40 (psOf whole));obtain ⟨hi2,hhi2⟩:=ex (hiWs 0 40 (psOf whole));obtain ⟨Wc,W18,hWc,hW18,hb18,hqc,hbc,hq18⟩:=twoMade w17 29 (iv 0) (iv 0) (iv lo2) (iv hi2);obtain ⟨g20,hg20⟩:=ex w17.heap.size;rw [hg20] at hW18 hqc hq18;rw [hlo2,hhi2];have X18:=Lq (belowT hb hb18);have Y18:=Lq (belowT Y16.out X18.out);have HQ20:=Lq hq18;have HG20 : Hid (g19 < g20):=Lq (by rw [← hg20]; exact Nat.lt_of_lt_of_le hg19l hb.size)
 have bf0:=hqc.frozen 0;have bf1:=hqc.frozen 1;have bc0:=hqc.c 0;have bc1:=hqc.c 1;have bl:=hqc.lt;clear hb hiff hyes hb18 hqc hbc hq18 HWP;by_cases hq : ∀ q ∈ psOf whole,standsB q nm = false
 case neg =>
  have hr9 : r1 = 9:=by
   refine HD15.out (fun h0=>?_) (by decide) (by decide) (by decide) (takeM nm) rfl HSO.out rfl rfl noPart_bare HHN.out
   exact hq ((take_plan HSO.out HHN.out).1 (HC15.out.1 h0).1.1)
  have hn0 : ((na : Int) == 0) = false:=by
   have : na ≠ 0:=fun h=>hq ((above_nil HSO.out).1 (by
    have h2:=HLA.out;rw [HNA.out] at h;have h3:=List.length_eq_zero_iff.1 h;rw [h3] at h2;exact h2.symm))
   simpa using this
  subst hr9;clear HNA;go_wp2_with fail
  refine (HAW6.out _ Y18.out).mono ?_;rintro e v8 ⟨rfl,hb⟩;have Y8:=Lq (belowT Y18.out hb);clear hb;go_wp2_with fail
  refine (HAW7.out _).mono ?_;rintro e v9 ⟨rfl,hb⟩;have Y9:=Lq (belowT Y8.out hb);clear hb;go_wp2_with fail
  go_ret
  exact ⟨rfl,Y9.out⟩
 have hr9 : r1 = 0:=HC15.out.2 ⟨⟨(take_plan HSO.out HHN.out).2 hq,by decide⟩,by decide,by decide⟩
 have hn0 : na = 0:=by
  rw [HNA.out,HLA.out];have h2:=(above_nil HSO.out).2 hq;rw [show shipOn 0 (psOf whole) (csOf []) = psOf whole from rfl,h2]
  rfl
 clear HNA;subst hr9;subst hn0;obtain ⟨hlo1,hhi1⟩:=HV15.out rfl;rw [show csOf [takeM nm] = [takeC nm] from rfl,take_ship HHN.out hq] at hlo1 hhi1
 go_wp2_with fail
 clear bf0 bf1 bc0 bc1 bl hWc hW18 hg20;have hts:=HBE.out.ts.len;obtain ⟨ti,hti⟩ : ∃ ti : Nat,xi % (ts.length : Int) = (ti : Int):=⟨(xi % (ts.length : Int)).toNat,(Int.toNat_of_nonneg (Int.emod_nonneg _ (by omega))).symm⟩
 have htl : ti < ts.length:=by have:=Int.emod_lt_of_pos xi (show 0 < (ts.length : Int) by omega); omega
 have zt : xi.tmod (ts.length : Int) = (ti : Int):=by rw [← hti]; exact Int.tmod_eq_emod_of_nonneg hxi.1
 obtain ⟨n5,hn5⟩:=ex ts.length;have n50 : 0 ≤ (n5 : Int):=by omega
 have ln5 : ((n5 : Int) = 0) = False:=eq_false (by omega)
 have X58 : Hid (BW W3 W18):=Lq (belowT X8.out (belowT X13.out (belowT X16.out X18.out)));have zx:=HQX.out _ X58.out;have zb:=HQB.out _ X58.out;rw [hn5] at zt hti zb;obtain ⟨x3,x4,x5⟩ : _ ∧ _ ∧ _:=⟨zx.c 3,zx.c 4,zb.c 5⟩;clear zx zb;go_quiet (fail)
 obtain ⟨bal,hbal⟩:=ex (xb % 41);have hbal0 : 0 ≤ bal ∧ bal ≤ 40:=by omega
 rw [hbal];clear x3 x4 x5 zt hbal;obtain ⟨W20,hW20⟩:=ex (W18.drewN nq);have hX20 : BW W18 W20:=by rw [← hW20]; exact belowN (belowR _) nq
 rw [hW20];clear hW20;have X20:=Lq (belowT X58.out hX20);have Y20:=Lq (belowT HB3.out X20.out);have HV : Hid (∀ W,BW W20 W → Blk W g19 29 #[iv lo1,iv hi1]):=Lq fun W hb=>HQ19.out.keep (belowT X18.out (belowT hX20 hb))
 have HU : Hid (∀ W,BW W20 W → Blk W g20 29 #[iv lo2,iv hi2]):=Lq fun W hb=>HQ20.out.keep (belowT hX20 hb)
 have HBB : Hid (∀ W,BW W20 W → Blk W gb 32 #[iv b.slo,iv b.shi,iv b.mlo,iv b.mhi,iv b.bite,.slice AT n5 capt]):=Lq fun W hb=>by
  have z:=HQB.out _ (belowT X20.out hb);rw [hn5] at z;exact z
 have hw2:=ws_bd HSO.out 0 40;rw [hlo2,hhi2] at hw2;have hel:=erase_le HSO.out 0 40 (idxP (psOf whole) nm);rw [hlo2,hhi2,← hlo1,← hhi1] at hel;have hw1 : 0 ≤ lo1 ∧ lo1 ≤ hi1 ∧ hi1 ≤ 12000000:=by
  have hso:=shipOn_ok ((take_plan HSO.out HHN.out).2 hq) 0;rw [take_ship HHN.out hq] at hso;rw [hlo1,hhi1];exact ws_bd hso 0 40
 obtain ⟨tt,htt⟩ : ∃ x,ts[ti]? = some x:=⟨_,List.getElem?_eq_getElem htl⟩;have so2:=drawn_ok hw2.1 hw2.2.1 htn0.1;have so1:=drawn_ok hw1.1 hw1.2.1 htn0.1;have hdm:=drawn_mono hw1.1 hel.1 hel.2 (by omega : 0 ≤ hi1) htn0.1
 have hsm:=stop_mono (t:=tt) (b:=b) ⟨HBE.out.s.1,by have:=HBE.out.s; omega⟩ hdm.1 hdm.2 rfl bal
 obtain ⟨da,hda⟩:=ex (drawnS lo2 hi2 tn).dlo;obtain ⟨db,hdb⟩:=ex (drawnS lo2 hi2 tn).dhi;obtain ⟨dc,hdc⟩:=ex (drawnS lo1 hi1 tn).dlo;obtain ⟨dd,hdd⟩:=ex (drawnS lo1 hi1 tn).dhi;obtain ⟨sa,hsa⟩:=ex (stopLo 0 bal (boxOf b (drawnS lo2 hi2 tn) tt));obtain ⟨sb,hsb⟩:=ex (stopHi 0 bal (boxOf b (drawnS lo2 hi2 tn) tt));obtain ⟨sc,hsc⟩:=ex (stopLo 0 bal (boxOf b (drawnS lo1 hi1 tn) tt));obtain ⟨sd,hsd⟩:=ex (stopHi 0 bal (boxOf b (drawnS lo1 hi1 tn) tt));have hle1 : sa ≤ sc:=by rw [← hsa,← hsc]; exact hsm.1
 have hle2 : sb ≤ sd:=by rw [← hsb,← hsd]; exact hsm.2
 have hle3:=hel.1;have hle4:=hel.2;have K12a : Hid (∀ W,Calls Tryz.prog 12 #[.agg #[iv lo2,iv hi2],iv tn] W fun e w'=>∃ v,e = .returned v ∧ v = .agg #[iv da,iv db] ∧ BW W w'):=Lq fun W=>(drawn12_any lo2 hi2 tn W hw2.1 hw2.2.1 hw2.2.2 ⟨htn0.1,by omega⟩).mono fun _ _ h=>⟨_,h.1,by rw [hda,hdb],h.2⟩
 have K12c : Hid (∀ W,Calls Tryz.prog 12 #[.agg #[iv lo1,iv hi1],iv tn] W fun e w'=>∃ v,e = .returned v ∧ v = .agg #[iv dc,iv dd] ∧ BW W w'):=Lq fun W=>(drawn12_any lo1 hi1 tn W hw1.1 hw1.2.1 hw1.2.2 ⟨htn0.1,by omega⟩).mono fun _ _ h=>⟨_,h.1,by rw [hdc,hdd],h.2⟩
 have K11a : Hid (∀ W,BW W20 W → Calls Tryz.prog 11 #[.agg #[iv b.slo,iv b.shi,iv b.mlo,iv b.mhi,iv b.bite,.slice AT n5 capt],.agg #[iv da,iv db,iv 0],iv ti,iv bal] W fun e w'=>∃ v,e = .returned v ∧ v = .tuple #[.agg #[iv sa,iv sb],iv 0] ∧ BW W w'):=Lq fun W hb=>by
  have h:=stops11_any AT ts capt ti tt b (drawnS lo2 hi2 tn) bal W (((HMM.out _ (belowT Y20.out hb)).2.2).more (belowT Y20.out hb).size) HBE.out so2 htt hbal0;rw [bV,hn5,sV,hda,hdb] at h;exact h.mono fun _ _ h=>⟨_,h.1,by rw [← hsa,← hsb]; rfl,h.2⟩
 have K11c : Hid (∀ W,BW W20 W → Calls Tryz.prog 11 #[.agg #[iv b.slo,iv b.shi,iv b.mlo,iv b.mhi,iv b.bite,.slice AT n5 capt],.agg #[iv dc,iv dd,iv 0],iv ti,iv bal] W fun e w'=>∃ v,e = .returned v ∧ v = .tuple #[.agg #[iv sc,iv sd],iv 0] ∧ BW W w'):=Lq fun W hb=>by
  have h:=stops11_any AT ts capt ti tt b (drawnS lo1 hi1 tn) bal W (((HMM.out _ (belowT Y20.out hb)).2.2).more (belowT Y20.out hb).size) HBE.out so1 htt hbal0;rw [bV,hn5,sV,hdc,hdd] at h;exact h.mono fun _ _ h=>⟨_,h.1,by rw [← hsc,← hsd]; rfl,h.2⟩
 have BL1:=Lq hle1;have BL2:=Lq hle2;have BL3:=Lq hle3;have BL4:=Lq hle4;clear hle1 hle2 hle3 hle4 hsa hsb hsc hsd hda hdb hdc hdd hdm hsm so1 so2 htt hw1 hw2 hel hlo1 hhi1 hlo2 hhi2 hX20 hts hti htl n50 ln5;go_upto_region 21 with fail
 refine reg3_21 (gb:=gb) (gw:=g20) (ge1:=g19) (slo:=b.slo) (shi:=b.shi) (mlo:=b.mlo) (mhi:=b.mhi) (bite:=b.bite) (A:=AT) (n:=n5) (cap:=capt) (lo:=lo2) (hi:=hi2) (tn:=tn) (ti:=ti) (bal:=bal) (da:=da) (db:=db) (sa:=sa) (sb:=sb) (Lq fun W hb=>have k:=HBB.out W hb; have j:=HU.out W hb; ⟨k.c 0,k.c 1,k.c 2,k.c 3,k.c 4,k.c 5,j.c 0,j.c 1⟩) K12a K11a (Has.cons rfl (Has.cons rfl (Has.cons rfl (Has.cons rfl (Has.cons rfl (Has.cons rfl (Has.nil rfl))))))) (Lq ?_)
 intro T1 W21 ga hb21 hq21 HT1;have HA : Hid (∀ W,BW W21 W → Blk W ga 29 #[iv sa,iv sb]):=Lq fun W hb=>hq21.1.keep hb
 have X21:=Lq hb21;clear hb21 hq21 K11a K12a;go_upto_region 22 with fail
 refine reg3_22 (gb:=gb) (gw:=g19) (ge1:=g20) (ge2:=ga) (slo:=b.slo) (shi:=b.shi) (mlo:=b.mlo) (mhi:=b.mhi) (bite:=b.bite) (A:=AT) (n:=n5) (cap:=capt) (lo:=lo1) (hi:=hi1) (tn:=tn) (ti:=ti) (bal:=bal) (da:=dc) (db:=dd) (sa:=sc) (sb:=sd) (Lq fun W hb=>have k:=HBB.out W (belowT X21.out hb); have j:=HV.out W (belowT X21.out hb); ⟨k.c 0,k.c 1,k.c 2,k.c 3,k.c 4,k.c 5,j.c 0,j.c 1⟩) K12c (Lq fun W hb=>K11c.out W (belowT X21.out hb)) (Has.cons (HT1.get 4 _) (Has.cons (HT1.get 19 _) (Has.cons (HT1.get 14 _) (Has.cons (HT1.get 22 _) (Has.cons (HT1.get 23 _) (Has.cons (HT1.get 20 _) (Has.cons (HT1.get 24 _) (Has.cons (HT1.get 9 _) (Has.nil HT1.1))))))))) (Lq ?_)
 intro T2 W22 gc hb22 hq22 HT2;have HCc : Hid (∀ W,BW W22 W → Blk W gc 29 #[iv sc,iv sd]):=Lq fun W hb=>hq22.1.keep hb
 have X22:=Lq hb22;clear hb22 hq22 K11c K12c HT1;have Y22:=Lq (belowT Y20.out (belowT X21.out X22.out));have k1:=HA.out W22 X22.out;have k2:=HCc.out W22 (belowR _);have k3:=HV.out W22 (belowT X21.out X22.out);have k4:=HU.out W22 (belowT X21.out X22.out);have k5:=HBB.out W22 (belowT X21.out X22.out);go_upto_region 23 with fail
 refine reg3_23 (ga:=ga) (gb:=gb) (gc:=gc) (gv:=g19) (gw:=g20) (Lq fun W hb=>HAW6.out W (belowT Y22.out hb)) (Lq fun W _=>HAW7.out W) (k1.c 0) (k1.c 1) (k2.c 0) (k2.c 1) (k3.c 0) (k3.c 1) (k4.c 0) (k4.c 1) (k5.c 2) BL1.out BL2.out BL3.out BL4.out (Has.cons (HT2.get 4 _) (Has.cons (HT2.get 24 _) (Has.cons (HT2.get 25 _) (Has.cons (HT2.get 19 _) (Has.cons (HT2.get 20 _) (Has.cons (HT2.get 9 _) (Has.cons (HT2.get 12 _) (Has.nil HT2.1)))))))) (Lq ?_)
 intro T3 W23 hb23 HT3;clear k1 k2 k3 k4 k5 HT2;have Y23:=Lq (belowT Y22.out hb23);have x6:=HT3.g 6;go_wp2_with fail
 exact bodyPost_ret (v:=.bool true) (by simp [results,Tryz.results3,x6]) rfl ⟨rfl,Y23.out⟩
end Go.Proofs.YtpgfldcoojfheaaGreatDoor
namespace Go.Proofs.YtpgfldcoojfheaaGreatDoor
open Go.RowKit Go.ChangeShapes Go.WideShapes Go.Deep
section
variable {c c1 v : Value} {b0 fuel len : Nat}
theorem addr_add (b o k : Nat) : Addr.add ⟨b,o,none⟩ k = ⟨b,o + k,none⟩:=by
 unfold Addr.add;split
 ·rename_i h;simp_all
 ·simp
theorem spot_none {w : World} {a : Addr} (h : w.cell? a = some v) : a = ⟨a.block,a.off,none⟩:=by
 obtain ⟨b,o,s⟩:=a;cases s with
 | none=>rfl
 | some n =>
  exfalso;simp only [World.cell?] at h;split at h
  ·simp at h
  ·cases h
theorem row_of_cells {α : Type} {k : Nat} {encs : α → List Value} {W : World} (hen : ∀ x,(encs x).length = k) (hk : 2 ≤ k) (Pred : α → Prop) {a : Addr}
  (each : ∀ i,i < len → ∃ c : α,Pred c ∧ ∀ (j : Nat) (u : Value),(encs c)[j]? = some u → W.cell? (a.add (i * k + j)) = some u) :
  ∃ xs : List α,xs.length = len ∧ (∀ c ∈ xs,Pred c) ∧ RdN k encs W W.heap.size (some a) xs:=by
 have hch:=Classical.axiomOfChoice (r:=fun (i : Fin len) (c : α)=>Pred c ∧ ∀ (j : Nat) (u : Value),(encs c)[j]? = some u → W.cell? (a.add (i * k + j)) = some u) fun i=>each i i.2
 obtain ⟨f,hf2⟩:=hch;refine ⟨List.ofFn f,by simp,fun c hc=>?_,fun i c hc=>?_⟩
 ·obtain ⟨i,rfl⟩:=List.mem_ofFn.1 hc;exact (hf2 i).1
 ·have hil : i < len:=by have:=(List.getElem?_eq_some_iff.1 hc).1; simpa using this
  have hfc : f ⟨i,hil⟩ = c:=by
   rw [List.getElem?_ofFn,dif_pos hil] at hc;exact Option.some.inj hc
  have hcell:=(hf2 ⟨i,hil⟩).2;rw [hfc] at hcell;have hcl:=hen c;have hlast:=hcell (k - 1) _ (List.getElem?_eq_getElem (show k - 1 < (encs c).length by omega))
  have ha : a = ⟨a.block,a.off,none⟩:=by
   have h0:=(hf2 ⟨0,by omega⟩).2 0 _ (List.getElem?_eq_getElem (show 0 < (encs (f ⟨0,by omega⟩)).length by rw [hen]; omega))
   have hs:=spot_none h0;have e : a.add (0 * k + 0) = a:=by unfold Addr.add; rw [if_pos (by simp)]
   simp only at hs;rw [e] at hs;exact hs
  refine ⟨a.block,a.off,by rw [← ha], ?_,fun j u hu=>?_⟩
  ·have h3':=hlast;rw [ha,addr_add] at h3';exact lt_of_cell h3'
  ·have:=hcell j u hu;rw [ha,addr_add] at this;simp only [← Nat.add_assoc] at this;exact this
def Fits {H : Type} (t : TypeId) (d : DataW H) : Prop:=∀ n ∈ d.weights Tryz.prog t,n ≤ reachBytes
theorem mem_all {H : Type} {P : Program} {e : TypeId} {d : DataW H} {n : Nat} (hn : n ∈ d.weights P e) : ∀ {l : List (DataW H)},d ∈ l → n ∈ DataW.weightsAll P e l
 | x::l,hd=>by
  simp only [DataW.weightsAll,List.mem_append];rcases List.mem_cons.1 hd with rfl | hd
  ·exact Or.inl hn
  ·exact Or.inr (mem_all hn hd)
theorem Fits.elem {H : Type} {t e : TypeId} {elems spare : List (DataW H)} {d : DataW H} (ht : Tryz.prog.underlying t = some (.slice e)) (h : Fits t (.slice elems spare)) (hd : d ∈ elems) : Fits e d:=fun n hn=>h n (by
 simp only [DataW.weights,ht,List.mem_cons,List.mem_append];exact Or.inr (Or.inl (mem_all hn hd)))
theorem Fits.size {H : Type} {t e : TypeId} {elems spare : List (DataW H)} (ht : Tryz.prog.underlying t = some (.slice e)) (h : Fits t (.slice elems spare)) : (elems.length + spare.length) * Tryz.prog.bytesOf e ≤ reachBytes:=h _ (by
 simp only [DataW.weights,ht];exact List.mem_cons_self)
theorem Fits.part {H : Type} {t u : TypeId} {fs : Array Field} {parts : List (DataW H)} {d : DataW H} {j : Nat} (ht : Tryz.prog.underlying t = some (.struct fs)) (h : Fits t (.agg parts)) (hu : (fs.toList.map (·.type))[j]? = some u) (hd : parts[j]? = some d) : Fits u d:=fun n hn=>h n (by
 simp only [DataW.weights,ht];exact DataW.weights_mem_each hu hd n hn)
theorem Tryz.cells3 : Tryz.prog.cellsOf 3 = 1:=by kernel_rfl
theorem Tryz.cells5 : Tryz.prog.cellsOf 5 = 1:=by kernel_rfl
theorem Tryz.cells9 : Tryz.prog.cellsOf 9 = 1:=by kernel_rfl
theorem Tryz.cells33 : Tryz.prog.cellsOf 33 = 1:=by kernel_rfl
theorem Tryz.cells22 : Tryz.prog.cellsOf 22 = 1:=by kernel_rfl
theorem Tryz.cells24 : Tryz.prog.cellsOf 24 = 1:=by kernel_rfl
theorem Tryz.cells25 : Tryz.prog.cellsOf 25 = 1:=by kernel_rfl
theorem Tryz.cells27 : Tryz.prog.cellsOf 27 = 2:=by kernel_rfl
theorem Tryz.cells29 : Tryz.prog.cellsOf 29 = 2:=by kernel_rfl
theorem Tryz.cells30 : Tryz.prog.cellsOf 30 = 1:=by kernel_rfl
theorem Tryz.cells32 : Tryz.prog.cellsOf 32 = 6:=by kernel_rfl
theorem Tryz.cells35 : Tryz.prog.cellsOf 35 = 5:=by kernel_rfl
theorem Tryz.cells45 : Tryz.prog.cellsOf 45 = 1:=by kernel_rfl
theorem Tryz.cells47 : Tryz.prog.cellsOf 47 = 7:=by kernel_rfl
theorem Tryz.cells49 : Tryz.prog.cellsOf 49 = 10:=by kernel_rfl
theorem Tryz.cells141 : Tryz.prog.cellsOf 141 = 5:=by kernel_rfl
theorem Tryz.bytes9 : Tryz.prog.bytesOf 9 = 16:=by kernel_rfl
section
variable {H : Type} {enc : TypeId × Value → H} {W : World} {base : Nat} {spare : Nat → Bool} {held : Bool}
theorem trodS2 {P : Program} {t : TypeId} {f0 f1 : Field} {cs : List Value} {x : DataW H × List MemPlace} (ht : P.underlying t = some (.struct #[f0,f1])) (h : DataW.trod enc P W base spare held fuel t cs = some x) :
  ∃ y0 y1 n,x.1 = .agg [y0.1,y1.1] ∧ cs.length = P.cellsOf t ∧ DataW.trod enc P W base spare held n f0.type ((cs.drop f0.offset).take (P.cellsOf f0.type)) = some y0 ∧ DataW.trod enc P W base spare held n f1.type ((cs.drop f1.offset).take (P.cellsOf f1.type)) = some y1:=by
 obtain ⟨xs,n,_,rfl,hl,hlen,hf⟩:=DataW.trod_struct ht h
 match xs,hlen with
 | [y0,y1],_=>exact ⟨y0,y1,n,by simp,hl,by simpa using hf 0 f0 rfl,by simpa using hf 1 f1 rfl⟩
theorem trodS4 {P : Program} {t : TypeId} {f0 f1 f2 f3 : Field} {cs : List Value} {x : DataW H × List MemPlace} (ht : P.underlying t = some (.struct #[f0,f1,f2,f3])) (h : DataW.trod enc P W base spare held fuel t cs = some x) :
  ∃ y0 y1 y2 y3 n,x.1 = .agg [y0.1,y1.1,y2.1,y3.1] ∧ cs.length = P.cellsOf t ∧ DataW.trod enc P W base spare held n f0.type ((cs.drop f0.offset).take (P.cellsOf f0.type)) = some y0 ∧ DataW.trod enc P W base spare held n f1.type ((cs.drop f1.offset).take (P.cellsOf f1.type)) = some y1 ∧ DataW.trod enc P W base spare held n f2.type ((cs.drop f2.offset).take (P.cellsOf f2.type)) = some y2 ∧ DataW.trod enc P W base spare held n f3.type ((cs.drop f3.offset).take (P.cellsOf f3.type)) = some y3:=by
 obtain ⟨xs,n,_,rfl,hl,hlen,hf⟩:=DataW.trod_struct ht h
 match xs,hlen with
 | [y0,y1,y2,y3],_=>exact ⟨y0,y1,y2,y3,n,by simp,hl,by simpa using hf 0 f0 rfl,by simpa using hf 1 f1 rfl,by simpa using hf 2 f2 rfl,by simpa using hf 3 f3 rfl⟩
theorem trodS5 {P : Program} {t : TypeId} {f0 f1 f2 f3 f4 : Field} {cs : List Value} {x : DataW H × List MemPlace} (ht : P.underlying t = some (.struct #[f0,f1,f2,f3,f4])) (h : DataW.trod enc P W base spare held fuel t cs = some x) :
  ∃ y0 y1 y2 y3 y4 n,x.1 = .agg [y0.1,y1.1,y2.1,y3.1,y4.1] ∧ cs.length = P.cellsOf t ∧ DataW.trod enc P W base spare held n f0.type ((cs.drop f0.offset).take (P.cellsOf f0.type)) = some y0 ∧ DataW.trod enc P W base spare held n f1.type ((cs.drop f1.offset).take (P.cellsOf f1.type)) = some y1 ∧ DataW.trod enc P W base spare held n f2.type ((cs.drop f2.offset).take (P.cellsOf f2.type)) = some y2 ∧ DataW.trod enc P W base spare held n f3.type ((cs.drop f3.offset).take (P.cellsOf f3.type)) = some y3 ∧ DataW.trod enc P W base spare held n f4.type ((cs.drop f4.offset).take (P.cellsOf f4.type)) = some y4:=by
 obtain ⟨xs,n,_,rfl,hl,hlen,hf⟩:=DataW.trod_struct ht h
 match xs,hlen with
 | [y0,y1,y2,y3,y4],_=>exact ⟨y0,y1,y2,y3,y4,n,by simp,hl,by simpa using hf 0 f0 rfl,by simpa using hf 1 f1 rfl,by simpa using hf 2 f2 rfl,by simpa using hf 3 f3 rfl,by simpa using hf 4 f4 rfl⟩
theorem trodS6 {P : Program} {t : TypeId} {f0 f1 f2 f3 f4 f5 : Field} {cs : List Value} {x : DataW H × List MemPlace} (ht : P.underlying t = some (.struct #[f0,f1,f2,f3,f4,f5])) (h : DataW.trod enc P W base spare held fuel t cs = some x) :
  ∃ y0 y1 y2 y3 y4 y5 n,x.1 = .agg [y0.1,y1.1,y2.1,y3.1,y4.1,y5.1] ∧ cs.length = P.cellsOf t ∧ DataW.trod enc P W base spare held n f0.type ((cs.drop f0.offset).take (P.cellsOf f0.type)) = some y0 ∧ DataW.trod enc P W base spare held n f1.type ((cs.drop f1.offset).take (P.cellsOf f1.type)) = some y1 ∧ DataW.trod enc P W base spare held n f2.type ((cs.drop f2.offset).take (P.cellsOf f2.type)) = some y2 ∧ DataW.trod enc P W base spare held n f3.type ((cs.drop f3.offset).take (P.cellsOf f3.type)) = some y3 ∧ DataW.trod enc P W base spare held n f4.type ((cs.drop f4.offset).take (P.cellsOf f4.type)) = some y4 ∧ DataW.trod enc P W base spare held n f5.type ((cs.drop f5.offset).take (P.cellsOf f5.type)) = some y5:=by
 obtain ⟨xs,n,_,rfl,hl,hlen,hf⟩:=DataW.trod_struct ht h
 match xs,hlen with
 | [y0,y1,y2,y3,y4,y5],_=>exact ⟨y0,y1,y2,y3,y4,y5,n,by simp,hl,by simpa using hf 0 f0 rfl,by simpa using hf 1 f1 rfl,by simpa using hf 2 f2 rfl,by simpa using hf 3 f3 rfl,by simpa using hf 4 f4 rfl,by simpa using hf 5 f5 rfl⟩
theorem trodS3 {P : Program} {t : TypeId} {f0 f1 f2 : Field} {cs : List Value} {x : DataW H × List MemPlace} (ht : P.underlying t = some (.struct #[f0,f1,f2])) (h : DataW.trod enc P W base spare held fuel t cs = some x) :
  ∃ y0 y1 y2 n,x.1 = .agg [y0.1,y1.1,y2.1] ∧ cs.length = P.cellsOf t ∧ DataW.trod enc P W base spare held n f0.type ((cs.drop f0.offset).take (P.cellsOf f0.type)) = some y0 ∧ DataW.trod enc P W base spare held n f1.type ((cs.drop f1.offset).take (P.cellsOf f1.type)) = some y1 ∧ DataW.trod enc P W base spare held n f2.type ((cs.drop f2.offset).take (P.cellsOf f2.type)) = some y2:=by
 obtain ⟨xs,n,_,rfl,hl,hlen,hf⟩:=DataW.trod_struct ht h
 match xs,hlen with
 | [y0,y1,y2],_=>exact ⟨y0,y1,y2,n,by simp,hl,by simpa using hf 0 f0 rfl,by simpa using hf 1 f1 rfl,by simpa using hf 2 f2 rfl⟩
theorem trodS1 {P : Program} {t : TypeId} {f0 : Field} {cs : List Value} {x : DataW H × List MemPlace} (ht : P.underlying t = some (.struct #[f0])) (h : DataW.trod enc P W base spare held fuel t cs = some x) :
  ∃ y0 n,x.1 = .agg [y0.1] ∧ cs.length = P.cellsOf t ∧ DataW.trod enc P W base spare held n f0.type ((cs.drop f0.offset).take (P.cellsOf f0.type)) = some y0:=by
 obtain ⟨xs,n,_,rfl,hl,hlen,hf⟩:=DataW.trod_struct ht h
 match xs,hlen with
 | [y0],_=>exact ⟨y0,n,by simp,hl,by simpa using hf 0 f0 rfl⟩
theorem open_span {c0 : Value} {x : DataW H × List MemPlace} (h : DataW.trod enc Tryz.prog W base spare held fuel 29 [c0,c1] = some x) : ∃ lo hi : Int,c0 = .int .i64 lo ∧ c1 = .int .i64 hi:=by
 obtain ⟨y0,y1,n,_,_,h0,h1⟩:=trodS2 Tryz.underlying29 h;simp only [Tryz.cells3] at h0 h1;obtain ⟨lo,e0,_,_⟩:=DataW.trod_int Tryz.underlying3 h0;obtain ⟨hi,e1,_,_⟩:=DataW.trod_int Tryz.underlying3 h1;exact ⟨lo,hi,by simpa using e0,by simpa using e1⟩
theorem u16_open {x : DataW H × List MemPlace} (h : DataW.trod enc Tryz.prog W base spare held fuel 33 [c] = some x) : ∃ n : Int,c = .int .u16 n ∧ 0 ≤ n ∧ n ≤ 65535:=by
 obtain ⟨n,e,_,hw⟩:=DataW.trod_int Tryz.underlying33 h;have:=bounds_u16 hw;exact ⟨n,by simpa using e,this.1,this.2⟩
theorem u8_open {x : DataW H × List MemPlace} (h : DataW.trod enc Tryz.prog W base spare held fuel 5 [c] = some x) : ∃ n : Int,c = .int .u8 n ∧ 0 ≤ n ∧ n ≤ 255:=by
 obtain ⟨n,e,_,hw⟩:=DataW.trod_int Tryz.underlying5 h;have:=bounds_u8 hw;exact ⟨n,by simpa using e,this.1,this.2⟩
theorem open_on {x : DataW H × List MemPlace} (h : DataW.trod enc Tryz.prog W base spare held fuel 45 [c] = some x) (hf : Fits 45 x.1) :
  ∃ (A : Option Addr) (os : List ByteArray) (cap : Nat),c = .slice A os.length cap ∧ os.length ≤ cap ∧ cap ≤ maxLen ∧ Rd1 .string W W.heap.size A os ∧ (∀ o ∈ os,o.size ≤ maxLen) ∧ os.length * 16 ≤ 140737488351232:=by
 rcases open_strs Tryz.underlying45 Tryz.underlying9 Tryz.cells9 h with ⟨e,_⟩ | ⟨a,len,cap,m,Sx,e,_,hlc,hcm,hm,hx,hcell⟩
 ·have e' : c = .slice none 0 0:=List.head_eq_of_cons_eq e;rw [e'];exact ⟨none,[],0,rfl,Nat.le_refl _,Nat.zero_le _,Rd1.nil,(fun _ h=>by cases h),by decide⟩
 ·have e' : c = .slice (some a) len cap:=List.head_eq_of_cons_eq e;have hlm : len ≤ m:=by rw [hm]; split <;> omega
  rw [hx] at hf;have hsz:=hf.size Tryz.underlying45;simp only [List.length_map,List.length_range,Tryz.bytes9] at hsz;have hsz2 : len * 16 ≤ 140737488351232:=by
   have h1 : reachBytes = 140737488351232:=by decide
   rw [h1] at hsz;omega
  rw [e'];refine ⟨some a,(List.range len).map Sx,cap,by simp,by simpa using hlc,hcm,fun i x hxi=>?_,fun o ho=>?_,by simpa using hsz2⟩
  ·have hil : i < len:=by have:=(List.getElem?_eq_some_iff.1 hxi).1; simpa using this
   have hxe : Sx i = x:=by simpa [hil] using hxi
   have hc:=(hcell i (by omega)).1
   have ha : a = ⟨a.block,a.off,none⟩:=by
    have h0:=(hcell 0 (by omega)).1
    simpa [Addr.add] using spot_none h0
   rw [ha,addr_add] at hc;rw [hxe] at hc;exact ⟨a.block,a.off,by rw [← ha],lt_of_cell hc,hc⟩
  ·obtain ⟨i,hi,rfl⟩:=List.mem_map.1 ho;exact (hcell i (by have:=List.mem_range.1 hi; omega)).2
theorem open_part {cs : List Value} {x : DataW H × List MemPlace} (hl : cs.length = 7) (h : DataW.trod enc Tryz.prog W base spare held fuel 47 cs = some x) (hf : Fits 47 x.1) : ∃ m : HuM,cs = encM m ∧ MOk W W.heap.size m:=by
 match cs,hl with
 | [c0,c1,c2,c3,c4,c5,c6],_ =>
  obtain ⟨y0,y1,y2,y3,y4,y5,n,ex,_,h0,h1,h2,h3,h4,h5⟩:=trodS6 Tryz.underlying47 h;simp only [Tryz.cells9,Tryz.cells3,Tryz.cells45,Tryz.cells29] at h0 h1 h2 h3 h4 h5;rw [ex] at hf;obtain ⟨s,e0,_,hs⟩:=DataW.trod_string Tryz.underlying9 h0;obtain ⟨kind,e1,_,_⟩:=DataW.trod_int Tryz.underlying3 (cs:=[c1]) h1;obtain ⟨fst,e2,_,_⟩:=DataW.trod_int Tryz.underlying3 (cs:=[c2]) h2;obtain ⟨lst,e3,_,_⟩:=DataW.trod_int Tryz.underlying3 (cs:=[c3]) h3;obtain ⟨A,os,cap,e4,ho1,ho2,ho3,ho4,ho5⟩:=open_on (c:=c4) h4 (hf.part Tryz.underlying47 (j:=4) rfl rfl);obtain ⟨wlo,whi,e5,e6⟩:=open_span (c0:=c5) (c1:=c6) h5;have e0' : c0 = .string s:=by simpa using e0
  have e1' : c1 = .int .i64 kind:=by simpa using e1
  have e2' : c2 = .int .i64 fst:=by simpa using e2
  have e3' : c3 = .int .i64 lst:=by simpa using e3
  subst e0' e1' e2' e3' e4 e5 e6;exact ⟨⟨⟨s,kind,fst,lst,os,wlo,whi⟩,A,cap⟩,rfl,⟨ho3,ho1,ho2,hs,ho4,ho5⟩⟩
theorem open_parts {x : DataW H × List MemPlace} (h : DataW.trod enc Tryz.prog W base spare held fuel 22 [c] = some x) (hf : Fits 22 x.1) :
  ∃ (A : Option Addr) (ms : List HuM) (cap : Nat),c = .slice A ms.length cap ∧ ms.length ≤ cap ∧ cap ≤ maxLen ∧ (A = none → cap = 0) ∧ MsRd W W.heap.size A ms:=by
 rcases open_slice Tryz.underlying22 (cs:=[c]) h with ⟨e,_⟩ | ⟨a,len,cap,m,n2,D,Pl,e,_,hlc,hcm,hm,hx,hi2⟩
 ·have e' : c = .slice none 0 0:=List.head_eq_of_cons_eq e;rw [e'];exact ⟨none,[],0,rfl,Nat.le_refl _,Nat.zero_le _,(fun _=>rfl),⟨RdN.nil,fun _ h=>by cases h⟩⟩
 ·have hlm : len ≤ m:=by rw [hm]; split <;> omega
  rw [hx] at hf;obtain ⟨xs,hxl,hP,hR⟩:=row_of_cells (W:=W) (a:=a) (len:=len) (k:=7) (encs:=encM) (fun _=>rfl) (by decide) (fun m=>MOk W W.heap.size m) (fun i hil=>by
   obtain ⟨cs',hc,ht'⟩:=hi2 i (by omega)
   rw [Tryz.cells47] at hc;obtain ⟨_,hcl,hat⟩:=World.cells?_some hc;obtain ⟨c,rfl,hs⟩:=open_part hcl ht' (hf.elem Tryz.underlying22 (List.mem_map.2 ⟨i,List.mem_range.2 hil,rfl⟩));refine ⟨c,hs,fun j u hu=>?_⟩
   have hj : j < 7:=(List.getElem?_eq_some_iff.1 hu).1;rw [← Go.Deep.add_add,hat j hj,hu])
  exact ⟨some a,xs,cap,by rw [hxl]; exact List.head_eq_of_cons_eq e,by omega,hcm,(fun h=>by cases h),⟨hR,hP⟩⟩
theorem open_change {cs : List Value} {x : DataW H × List MemPlace} (hl : cs.length = 10) (h : DataW.trod enc Tryz.prog W base spare held fuel 49 cs = some x) (hf : Fits 49 x.1) : ∃ c : HcM,cs = encC c ∧ (MOk W W.heap.size c.part ∧ c.name.size ≤ maxLen) ∧ Lit.wf (.int .i64 c.what) = true:=by
 match cs,hl with
 | [c0,c1,c2,c3,c4,c5,c6,c7,c8,c9],_ =>
  obtain ⟨y0,y1,y2,y3,n,ex,_,h0,h1,h2,h3⟩:=trodS4 Tryz.underlying49 h;simp only [Tryz.cells9,Tryz.cells3,Tryz.cells47] at h0 h1 h2 h3;rw [ex] at hf;obtain ⟨what,e0,_,hw⟩:=DataW.trod_int Tryz.underlying3 (cs:=[c0]) h0;obtain ⟨day,e1,_,_⟩:=DataW.trod_int Tryz.underlying3 (cs:=[c1]) h1;obtain ⟨s,e2,_,hs⟩:=DataW.trod_string Tryz.underlying9 (cs:=[c2]) h2;obtain ⟨m,e3,hm⟩:=open_part (cs:=[c3,c4,c5,c6,c7,c8,c9]) rfl h3 (hf.part Tryz.underlying49 (j:=3) rfl rfl);have e0' : c0 = .int .i64 what:=by simpa using e0
  have e1' : c1 = .int .i64 day:=by simpa using e1
  have e2' : c2 = .string s:=by simpa using e2
  injection e3 with e3 e3b
  injection e3b with e4 e3b
  injection e3b with e5 e3b
  injection e3b with e6 e3b
  injection e3b with e7 e3b
  injection e3b with e8 e3b
  injection e3b with e9 e3b
  subst e0' e1' e2' e3 e4 e5 e6 e7 e8 e9;exact ⟨⟨what,day,s,m⟩,rfl,⟨hm,hs⟩,hw⟩
theorem open_changes {x : DataW H × List MemPlace} (h : DataW.trod enc Tryz.prog W base spare held fuel 25 [c] = some x) (hf : Fits 25 x.1) :
  ∃ (A : Option Addr) (cs : List HcM) (cap : Nat),c = .slice A cs.length cap ∧ SlC W W.heap.size A cap cs ∧ ∀ c ∈ cs,Lit.wf (.int .i64 c.what) = true:=by
 rcases open_slice Tryz.underlying25 (cs:=[c]) h with ⟨e,_⟩ | ⟨a,len,cap,m,n2,D,Pl,e,_,hlc,hcm,hm,hx,hi2⟩
 ·have e' : c = .slice none 0 0:=List.head_eq_of_cons_eq e;rw [e'];exact ⟨none,[],0,rfl,slC_nil _ _,fun _ h=>by cases h⟩
 ·have hlm : len ≤ m:=by rw [hm]; split <;> omega
  rw [hx] at hf;obtain ⟨xs,hxl,hP,hR⟩:=row_of_cells (W:=W) (a:=a) (len:=len) (k:=10) (encs:=encC) (fun _=>rfl) (by decide) (fun c=>(MOk W W.heap.size c.part ∧ c.name.size ≤ maxLen) ∧ Lit.wf (.int .i64 c.what) = true) (fun i hil=>by
   obtain ⟨cs',hc,ht'⟩:=hi2 i (by omega)
   rw [Tryz.cells49] at hc;obtain ⟨_,hcl,hat⟩:=World.cells?_some hc;obtain ⟨c,rfl,hs,hw⟩:=open_change hcl ht' (hf.elem Tryz.underlying25 (List.mem_map.2 ⟨i,List.mem_range.2 hil,rfl⟩));refine ⟨c,⟨hs,hw⟩,fun j u hu=>?_⟩
   have hj : j < 10:=(List.getElem?_eq_some_iff.1 hu).1;rw [← Go.Deep.add_add,hat j hj,hu])
  exact ⟨some a,xs,cap,by rw [hxl]; exact List.head_eq_of_cons_eq e,⟨hR,fun c hc=>(hP c hc).1,by omega,hcm⟩,fun c hc=>(hP c hc).2⟩
theorem Tryz.leaves27 : Tryz.prog.cellTypes Tryz.prog.depth 27 = some [22,25]:=by kernel_rfl
theorem off_of_ok {a : Addr} {cap : Nat} (hv : Value.okWide Tryz.prog W .any b0 27 (.agg #[.slice (some a) len cap,c1])) : a.spot = none ∧ a.block < W.heap.size:=by
 unfold Value.okWide at hv;rw [Tryz.underlying27] at hv;obtain ⟨cs,e,_,ts,hts,_,hc⟩:=hv;injection e with e
 subst e;rw [Tryz.leaves27] at hts;injection hts with hts
 subst hts;obtain ⟨u,hu,hk⟩:=hc 0 _ rfl;have hu2 : u = 22:=by simpa using hu.symm
 subst hu2;unfold Cell.okWide at hk;rw [Tryz.underlying22] at hk;unfold Cell.ok at hk;rw [Tryz.underlying22] at hk;obtain ⟨_,_,_,hs,row,cells,hsh,_⟩:=hk;refine ⟨hs, ?_⟩;unfold World.shape? at hsh;have hlt : ∃ o,W.heap[a.block]? = some o:=by
  cases ho : W.heap[a.block]? with
  | none=>rw [ho] at hsh; simp at hsh
  | some o=>exact ⟨o,rfl⟩
 obtain ⟨o,ho⟩:=hlt;exact (Array.getElem?_eq_some_iff.1 ho).1
theorem open_plan {d : DataW H} {p : List MemPlace} (hv : Value.okWide Tryz.prog W .any b0 27 v) (h : DataW.Trod enc Tryz.prog W base spare held 27 v d p) (hf : Fits 27 d) :
  ∃ (A C : Option Addr) (ms : List HuM) (cs : List HcM) (cap capc : Nat),v = .agg #[.slice A ms.length cap,.slice C cs.length capc] ∧ SlM W W.heap.size A cap ms ∧ SlC W W.heap.size C capc cs ∧ ∀ c ∈ cs,Lit.wf (.int .i64 c.what) = true:=by
 have hv0:=hv;obtain ⟨arr,rfl,hsz⟩:=okWide_struct Tryz.underlying27 hv;obtain ⟨l⟩:=arr;replace hsz:=hsz.trans Tryz.cells27
 match l,hsz with
 | [c0,c1],_ =>
  obtain ⟨fuel,hfu⟩:=h;obtain ⟨y0,y1,n,ex,_,h0,h1⟩:=trodS2 Tryz.underlying27 hfu;simp only at ex;rw [ex] at hf;simp only [Tryz.cells24,Tryz.cells25] at h0 h1;have hf0:=hf.part Tryz.underlying27 (j:=0) rfl rfl;obtain ⟨z0,n2,ex2,_,h2⟩:=trodS1 Tryz.underlying24 (cs:=[c0]) h0;rw [ex2] at hf0;simp only [Tryz.cells22] at h2;obtain ⟨A,ms,cap,e0,p1,p2,p3,p4⟩:=open_parts (c:=c0) h2 (hf0.part Tryz.underlying24 (j:=0) rfl rfl);obtain ⟨C,cs,capc,e1,q1,q2⟩:=open_changes (c:=c1) h1 (hf.part Tryz.underlying27 (j:=1) rfl rfl);subst e0 e1;exact ⟨A,C,ms,cs,cap,capc,rfl,⟨p4,p1,p2,p3,fun a ha=>by subst ha; exact off_of_ok hv0⟩,q1,q2⟩
theorem open_tide {cs : List Value} {x : DataW H × List MemPlace} (hl : cs.length = 5) (h : DataW.trod enc Tryz.prog W base spare held fuel 141 cs = some x) : ∃ t : TdT,cs = encT t:=by
 match cs,hl with
 | [c0,c1,c2,c3,c4],_ =>
  obtain ⟨y0,y1,y2,n,_,_,h0,h1,h2⟩:=trodS3 Tryz.underlying141 h;simp only [Tryz.cells3,Tryz.cells29] at h0 h1 h2;obtain ⟨day,e0,_,_⟩:=DataW.trod_int Tryz.underlying3 (cs:=[c0]) h0;obtain ⟨hlo,hhi,e1,e2⟩:=open_span (c0:=c1) (c1:=c2) h1;obtain ⟨wlo,whi,e3,e4⟩:=open_span (c0:=c3) (c1:=c4) h2;have e0' : c0 = .int .i64 day:=by simpa using e0
  subst e0' e1 e2 e3 e4;exact ⟨⟨day,hlo,hhi,wlo,whi⟩,rfl⟩
theorem open_beach {d : DataW H} {p : List MemPlace} (hv : Value.okWide Tryz.prog W .any b0 32 v) (h : DataW.Trod enc Tryz.prog W base spare held 32 v d p) :
  ∃ (b : TdB) (A : Option Addr) (ts : List TdT) (cap : Nat),v = .agg #[iv b.slo,iv b.shi,iv b.mlo,iv b.mhi,iv b.bite,.slice A ts.length cap] ∧ TsRd W W.heap.size A cap ts:=by
 obtain ⟨arr,rfl,hsz⟩:=okWide_struct Tryz.underlying32 hv;obtain ⟨l⟩:=arr;replace hsz:=hsz.trans Tryz.cells32
 match l,hsz with
 | [c0,c1,c2,c3,c4,c5],_ =>
  obtain ⟨fuel,hfu⟩:=h;obtain ⟨y0,y1,y2,y3,n,_,_,h0,h1,h2,h3⟩:=trodS4 Tryz.underlying32 hfu;simp only [Tryz.cells29,Tryz.cells3,Tryz.cells30] at h0 h1 h2 h3;obtain ⟨slo,shi,e0,e1⟩:=open_span (c0:=c0) (c1:=c1) h0;obtain ⟨mlo,mhi,e2,e3⟩:=open_span (c0:=c2) (c1:=c3) h1;obtain ⟨bite,e4,_,_⟩:=DataW.trod_int Tryz.underlying3 (cs:=[c4]) h2;have e4' : c4 = .int .i64 bite:=by simpa using e4
  obtain ⟨A,ts,cap,e5,hr⟩ : ∃ (A : Option Addr) (ts : List TdT) (cap : Nat),c5 = .slice A ts.length cap ∧ TsRd W W.heap.size A cap ts:=by
   rcases open_slice Tryz.underlying30 (cs:=[c5]) h3 with ⟨e,_⟩ | ⟨a,len,cap,m,n2,D,Pl,e,_,hlc,hcm,hm,_,hi2⟩
   ·exact ⟨none,[],0,List.head_eq_of_cons_eq e,⟨RdN.nil,Nat.le_refl _,Nat.zero_le _⟩⟩
   ·have hlm : len ≤ m:=by rw [hm]; split <;> omega
    obtain ⟨xs,hxl,_,hR⟩:=row_of_cells (W:=W) (a:=a) (len:=len) (k:=5) (encs:=encT) (fun _=>rfl) (by decide) (fun _=>True) (fun i hil=>by
     obtain ⟨cs',hc,ht'⟩:=hi2 i (by omega)
     rw [Tryz.cells141] at hc;obtain ⟨_,hcl,hat⟩:=World.cells?_some hc;obtain ⟨c,rfl⟩:=open_tide hcl ht';refine ⟨c,trivial,fun j u hu=>?_⟩
     have hj : j < 5:=(List.getElem?_eq_some_iff.1 hu).1;rw [← Go.Deep.add_add,hat j hj,hu])
    exact ⟨some a,xs,cap,by rw [hxl]; exact List.head_eq_of_cons_eq e,⟨hR,by omega,hcm⟩⟩
  subst e0 e1 e2 e3 e4' e5;exact ⟨⟨slo,shi,mlo,mhi,bite⟩,A,ts,cap,rfl,hr⟩
theorem open_laden {d : DataW H} {p : List MemPlace} (hv : Value.okWide Tryz.prog W .any b0 35 v) (h : DataW.Trod enc Tryz.prog W base spare held 35 v d p) :
  ∃ xd xt xk xi xb : Int,v = .agg #[.int .u16 xd,.int .u16 xt,.int .u8 xk,.int .u8 xi,.int .u8 xb] ∧ (0 ≤ xd ∧ xd ≤ 65535) ∧ (0 ≤ xt ∧ xt ≤ 65535) ∧ (0 ≤ xk ∧ xk ≤ 255) ∧ (0 ≤ xi ∧ xi ≤ 255) ∧ (0 ≤ xb ∧ xb ≤ 255):=by
 obtain ⟨arr,rfl,hsz⟩:=okWide_struct Tryz.underlying35 hv;obtain ⟨l⟩:=arr;replace hsz:=hsz.trans Tryz.cells35
 match l,hsz with
 | [c0,c1,c2,c3,c4],_ =>
  obtain ⟨fuel,hfu⟩:=h;obtain ⟨y0,y1,y2,y3,y4,n,_,_,h0,h1,h2,h3,h4⟩:=trodS5 Tryz.underlying35 hfu;simp only [Tryz.cells33,Tryz.cells5] at h0 h1 h2 h3 h4;obtain ⟨a,e0,ha⟩:=u16_open (c:=c0) h0;obtain ⟨b,e1,hb⟩:=u16_open (c:=c1) h1;obtain ⟨c,e2,hc⟩:=u8_open (c:=c2) h2;obtain ⟨d,e3,hd⟩:=u8_open (c:=c3) h3;obtain ⟨e,e4,he⟩:=u8_open (c:=c4) h4;subst e0 e1 e2 e3 e4;exact ⟨a,b,c,d,e,rfl,ha,hb,hc,hd,he⟩
end
theorem Tryz.laidOut : laidOutB Tryz.prog = true:=by kernel_rfl
end
end Go.Proofs.YtpgfldcoojfheaaGreatDoor
