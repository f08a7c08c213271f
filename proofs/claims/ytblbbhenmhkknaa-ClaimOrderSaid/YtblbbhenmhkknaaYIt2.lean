/- The iterator over the sets of papers: the function that yields them. -/
import Derived.Laws.EntriesVeiled
import Derived.Test.YtblbbhenmhkknaaYIt
namespace Go.Proofs.Ytblbbhenmhkknaa
open Go.RowKit Go.Shelf
attribute [local go_sem] Oper.semAt_some

set_option maxRecDepth 100000 in
set_option maxHeartbeats 4000000 in
theorem sets_in (sb l N f : Nat) (first : ByteArray) (A' : Option Addr) (capP : Nat) (vo : Value) (J Jx : List (List Nat) → World → Prop) (n : Nat) (W : World) (hN : N ≤ 8) (hf : f ≤ 8)
    (hsb : Blk W sb 96 #[.string first, .slice A' N capP, .int .i64 f, vo])
    (hJb : ∀ s W1 W2, J s W1 → Below W.heap.size W1 W2 → J s W2) (hJxb : ∀ s W1 W2, Jx s W1 → W1.grownBy W2 (some (W.heap.size + 2)) → Jx s W2)
    (hY : ∀ m, Rounds m W.heap.size sb l (W.heap.size + 2) (setsTo N (min f N + 1)) J Jx) (h0 : J [] W) :
    CallsIn Fence.wide n Try.prog 95 #[.func (.yield l) #[] #[], .pointer (some ⟨sb, 0, none⟩)] W fun e W' => (∃ v, e = .returned v) ∧
      (J (setsTo N (min f N + 1)) W' ∨ ∃ pre, pre <+: setsTo N (min f N + 1) ∧ Jx pre W') := by
  obtain ⟨i0, hi, hz0, hz1, hz2⟩ := info_parts Try.info3
  have s1 : W.cell? ⟨sb, 1, none⟩ = some (.slice A' N capP) := hsb.cell 1
  have s2 : W.cell? ⟨sb, 2, none⟩ = some (.int .i64 f) := hsb.cell 2
  have hslt := hsb.lt
  obtain ⟨M, hM⟩ : ∃ M, min f N = M := ⟨_, rfl⟩
  rw [hM] at hY ⊢
  have hM8 : M ≤ 8 := by omega
  have hMz : min (f : Int) (N : Int) = (M : Int) := by omega
  have HSB := Lib.hid hsb
  have HY := Lib.hid hY
  have HJB := Lib.hid hJb
  have HJXB := Lib.hid hJxb
  have H0 := Lib.hid h0
  have hmk := fun W => run_make (P := Try.prog) W 32 3 i0 (.int .i64 0) Try.underlying32 hi hz0 .i64 .i64 0 (M : Int) (Int.le_refl _) (by omega) (by rw [hz2]; omega) (by omega)
  simp only [hz1, Nat.mul_one, Int.toNat_zero, Int.toNat_natCast] at hmk
  clear hsb hY hJb hJxb h0 hM
  refine callsIn_of_wp Try.func95 rfl trivial ?_ rfl
  simp only [Try.ntmps95, List.size_toArray, List.length_cons, List.length_nil, Nat.reduceAdd, Nat.reduceSub, Array.replicate_succ, Array.replicate_zero, List.push_toArray, List.append_toArray, List.nil_append, List.cons_append]
  gi_wp2
  obtain ⟨W4, hW4⟩ : ∃ W4, ((((W.alloc (Obj.cells #[Value.func (Fn.yield l) #[] #[]] 143)).alloc (Obj.cells (madeCells #[Value.int IntKind.i64 0] M) 3)).alloc
                (Obj.cells #[Value.slice (some { block := W.heap.size + 1, off := 0 }) 0 M] 32)).alloc (Obj.cells #[Value.func (.func 96) #[] #[.pointer (some ⟨W.heap.size + 2, 0, none⟩), .pointer (some ⟨W.heap.size, 0, none⟩), .pointer (some ⟨sb, 0, none⟩), .pointer (some ⟨W.heap.size + 3, 0, none⟩)]] 138)) = W4 := ⟨_, rfl⟩
  have hsz4 : W4.heap.size = W.heap.size + 4 := by rw [← hW4]; simp
  have hb4 : Below W.heap.size W W4 := by
    rw [← hW4]
    exact ((((Below.refl _ _).alloc (Nat.le_refl _) _).alloc (by simp) _).alloc (by simp; omega) _).alloc (by simp; omega) _
  have b4y : Blk W4 W.heap.size 143 #[.func (.yield l) #[] #[]] := by
    rw [← hW4]
    exact (((Blk.new W 143 _).alloc _).alloc _).alloc _
  have b4m : W4.ownsRow W.heap.size 3 1 (.slice (some ⟨W.heap.size + 1, 0, none⟩) 0 M) 0 [] := by
    rw [← hW4]
    have := World.ownsRow_made (base := W.heap.size) (e := 3) (size := 1) (W.alloc (.cells #[.func (.yield l) #[] #[]] 143)) (madeCells #[.int .i64 0] M) M (by simp) (by simp [maxLen]; omega) (by simp [size_madeCells])
    simp only [World.size_alloc] at this
    exact (this.alloc _).alloc _
  have b4l : Blk W4 (W.heap.size + 2) 32 #[.slice (some ⟨W.heap.size + 1, 0, none⟩) 0 M] := by
    rw [← hW4]
    have := (Blk.new ((W.alloc (Obj.cells #[Value.func (Fn.yield l) #[] #[]] 143)).alloc (Obj.cells (madeCells #[Value.int IntKind.i64 0] M) 3)) 32 #[Value.slice (some { block := W.heap.size + 1, off := 0 }) 0 M]).alloc (Obj.cells #[Value.func (.func 96) #[] #[.pointer (some ⟨W.heap.size + 2, 0, none⟩), .pointer (some ⟨W.heap.size, 0, none⟩), .pointer (some ⟨sb, 0, none⟩), .pointer (some ⟨W.heap.size + 3, 0, none⟩)]] 138)
    simpa using this
  have b4f : Blk W4 (W.heap.size + 3) 138 #[.func (.func 96) #[] #[.pointer (some ⟨W.heap.size + 2, 0, none⟩), .pointer (some ⟨W.heap.size, 0, none⟩), .pointer (some ⟨sb, 0, none⟩), .pointer (some ⟨W.heap.size + 3, 0, none⟩)]] := by
    rw [← hW4]
    have := Blk.new (((W.alloc (Obj.cells #[Value.func (Fn.yield l) #[] #[]] 143)).alloc (Obj.cells (madeCells #[Value.int IntKind.i64 0] M) 3)).alloc (Obj.cells #[Value.slice (some { block := W.heap.size + 1, off := 0 }) 0 M] 32)) 138 #[Value.func (.func 96) #[] #[.pointer (some ⟨W.heap.size + 2, 0, none⟩), .pointer (some ⟨W.heap.size, 0, none⟩), .pointer (some ⟨sb, 0, none⟩), .pointer (some ⟨W.heap.size + 3, 0, none⟩)]]
    simpa using this
  have b4s : Blk W4 sb 96 #[.string first, .slice A' N capP, .int .i64 f, vo] := HSB.out.same (hb4.block _ hslt)
  have hI5 : FillInv W.heap.size (W.heap.size + 2) W.heap.size sb (W.heap.size + 3) l #[.string first, .slice A' N capP, .int .i64 f, vo] W4 [] (.slice (some ⟨W.heap.size + 1, 0, none⟩) 0 M) :=
    ⟨b4l, b4y, b4s, b4f, b4m, by omega⟩
  have hall : ∀ k, k ≤ M → setsTo N (k + 1) <+: setsTo N (M + 1) := fun k hk => by
    have := setsTo_prefix N (M - k) (k + 1)
    rwa [show k + 1 + (M - k) = M + 1 from by omega] at this
  have hJ5 : J [] W4 := HJB.out _ _ _ H0.out hb4
  rw [← hW4] at hI5 hJ5
  have HI5 := Lib.hid hI5
  have HJ5 := Lib.hid hJ5
  have HALL := Lib.hid hall
  clear hI5 hJ5 hall b4y b4m b4l b4s b4f hb4 hW4 hsz4 W4
  gi_wp2
  gi_loopw [20] (fun vi wr => ∃ (k : Nat) (lv : Value), vi = .int .i64 k ∧ k ≤ M + 1 ∧ Hid (FillInv W.heap.size (W.heap.size + 2) W.heap.size sb (W.heap.size + 3) l #[.string first, .slice A' N capP, .int .i64 f, vo] wr [] lv) ∧ Hid (J (setsTo N k) wr)) (fun vi _ => M + 1 - (intOf vi).toNat)
  case atStart => exact ⟨0, _, rfl, Nat.zero_le _, HI5, HJ5⟩
  case round =>
    clear HI5 HJ5
    obtain ⟨k, lv, rfl, hkM, HI, HJ⟩ := hrel
    by_cases hlt : k < M + 1
    · have hcall := fill_in W.heap.size (W.heap.size + 2) W.heap.size sb (W.heap.size + 3) l N first A' capP f vo (setsTo N (M + 1)) J Jx (by omega) (Nat.le_refl _) (by omega) hslt (by omega) (by omega) hN HJB.out HJXB.out HY.out k (n - 1) [] 0 (setsTo N k) wr lv (Nat.zero_le _) (by simp; omega) HI.out HJ.out (by
        have := HALL.out k (by omega)
        rw [setsTo_succ] at this
        simpa using this)
      rw [show (setsTo N k ++ (combs N k 0).map (([] : List Nat) ++ ·)) = setsTo N (k + 1) from by rw [setsTo_succ]; simp, show ((([] : List Nat).length + k : Nat) : Int) = (k : Int) from by simp] at hcall
      have q3 := HI.out.hf.cell 0
      have HC := Lib.hid hcall
      clear hcall
      gi_wp2_with fail
      refine ⟨trivial, hdd _, HC.out.mono ?_⟩
      clear HC HI HJ q3
      rintro e w3 ⟨⟨lv3, hI3⟩, (⟨rfl, hJ3⟩ | ⟨rfl, pre, hpre, hx3⟩)⟩
      · have HI3 := Lib.hid hI3
        have HJ3 := Lib.hid hJ3
        clear hI3 hJ3
        gi_wp2
        go_roundw
        case rel => exact ⟨k + 1, lv3, by go_num, by omega, HI3, HJ3⟩
        case measure => simp [intOf]; omega
      · have HX3 := Lib.hid hx3
        have HPRE := Lib.hid hpre
        clear hI3 hx3 hpre
        gi_wp2
        refine bodyPost_ret (results_none rfl _ _ _) rfl ?_
        exact ⟨⟨_, rfl⟩, .inr ⟨pre, HPRE.out, HX3.out⟩⟩
    · gi_wp2
      go_end0
      obtain rfl : k = M + 1 := by omega
      exact ⟨⟨_, rfl⟩, .inl HJ.out⟩
end Go.Proofs.Ytblbbhenmhkknaa
