/- Contracts of the store of frames: Clean; New. -/
import Derived.Test.YtgcnmhlojfncpaaFrmX
namespace Go.Proofs.Ytgcnmhlojfncpaa
open Go.ChangeShapes Go.WideShapes Go.ChangeAt Go.RowKit
set_option linter.unusedVariables false

def bytesU (f : Nat → Int) (n : Nat) : List UInt8 := (List.range n).map fun i => UInt8.ofNat (f i).toNat
theorem bytesU_length (f : Nat → Int) (n : Nat) : (bytesU f n).length = n := by simp [bytesU]
theorem bytesU_at {f : Nat → Int} (h : Byt f) {n i : Nat} (hi : i < n) : ((bytesU f n).map Extern.Stop.cell)[i]? = some (.int .u8 (f i)) := by
  have := h i
  simp [bytesU, hi, Extern.Stop.cell, UInt8.toNat_ofNat']
  omega
theorem bytesU_beq {f g : Nat → Int} (hf : Byt f) (hg : Byt g) (n : Nat) : (bytesU f n == bytesU g n) = decide (∀ i, i < n → f i = g i) := by
  rw [Bool.eq_iff_iff, beq_iff_eq, decide_eq_true_iff]
  constructor
  · intro h i hi
    have h1 := bytesU_at hf hi
    rw [h, bytesU_at hg hi] at h1
    simpa using h1.symm
  · intro h
    refine List.ext_getElem? fun i => ?_
    by_cases hi : i < n
    · simp [bytesU, hi, h i hi]
    · rw [List.getElem?_eq_none (by simp [bytesU]; omega), List.getElem?_eq_none (by simp [bytesU]; omega)]
/-- A frame has zeros alone. -/
def cleanB (f : Nat → Int) : Bool := (List.range 64).all fun i => f i == 0
theorem cleanB_true {f : Nat → Int} : cleanB f = true ↔ ∀ i, i < 64 → f i = 0 := by simp [cleanB]
theorem cleanB_false {f : Nat → Int} {i : Nat} (hi : i < 64) (h : f i ≠ 0) : cleanB f = false := by
  rw [← Bool.not_eq_true, cleanB_true]
  exact fun hx => h (hx i hi)
theorem bytesU_zero : bytesU (fun _ => 0) 64 = List.replicate 64 0 := by decide
theorem zeros64L_cell : (zeros64L : List Value) = (List.replicate 64 (0 : UInt8)).map Extern.Stop.cell := by simp [zeros64L, Extern.Stop.cell]
theorem clean_beq {f : Nat → Int} (hf : Byt f) : (bytesU f 64 == List.replicate 64 0) = cleanB f := by
  rw [← bytesU_zero, bytesU_beq hf (fun _ => by simp) 64, Bool.eq_iff_iff, cleanB_true, decide_eq_true_iff]

theorem wpList_eqz64 {P : Program} {ops : Array Oper} {rest : List Oper} {op : Oper} {a : Act} {w : World} {Q : Exit → Act → World → Prop} (hgd : op.guard = none) (ty ty' : TypeId) (x y : Operand) (ho : op.op = .binOp .eql ty x y ty')
    (e : TypeId) (ht : P.underlying ty = some (.array 64 e)) (he : P.underlying e = some (.int .u8)) (hsz : ∀ w, (sizeOf e).run P w = .ok 1 w) (hm : P.eqGuardType P.depth ty = false)
    (xs : List UInt8) (hxl : xs.length = 64) (hx : a.eval x = .agg (xs.map Extern.Stop.cell).toArray) (hy : a.eval y = .agg zeros64L.toArray) (b : Bool) (hb : (xs == List.replicate 64 0) = b)
    (h : wpList P ops Q rest (a.put op.dst (.bool b)) w) : wpList P ops Q (op :: rest) a w := by
  refine wpList_plain hgd fun K hK => ?_
  unfold Oper.wp execOp
  rw [zeros64L_cell] at hy
  subst hb
  simp only [ho, hx, hy, Sem.run_bind, run_eqGuard_agg _ _ _ _ _ _ _ hm, Result.andThen_ok, run_eql_bytes w ty e 64 ht he hsz xs (List.replicate 64 0) hxl (by simp), Sem.run_pure]
  exact hK _ _ h

theorem Try.byteRun (w : World) : (sizeOf 5).run Try.prog w = .ok 1 w := by kernel_rfl
theorem Try.frameGuard : Try.prog.eqGuardType Try.prog.depth 79 = false := by kernel_rfl

theorem StoAt.range {w : World} {s fb n f : Nat} {G : Nat → Int} (h : StoAt w s fb n G) (hf : f < n) : w.rangeAt fb (f * 64) ((bytesU (fr G f) 64).map Extern.Stop.cell) := by
  intro j u hj
  have hjl : j < 64 := by have := (List.getElem?_eq_some_iff.1 hj).1; simpa [bytesU] using this
  rw [bytesU_at (fr_byt h.2.2.2 f) hjl] at hj
  cases hj
  exact (h.bat hf).2.1 j hjl

set_option maxHeartbeats 1000000 in
theorem clean_in (s fb n f : Nat) (G : Nat → Int) (w : World) (h : StoAt w s fb n G) (hf : f < n) :
    Calls Try.prog 25 #[.pointer (some ⟨s, 0, none⟩), .int .i64 f] w fun e w' => e = .returned (.bool (cleanB (fr G f))) ∧ Below w.heap.size w w' := by
  have c0 := h.cell0
  have hl := h.lt
  have hn1 : ¬ (f : Int) < 0 := by omega
  have hn2 : (f : Int) < n := by omega
  have hcl := Lib.hid (clean_beq (fr_byt h.2.2.2 f))
  go_enter Try.func25, Try.ntmps25
  go_wp2_with fail
  refine (Calls.lat (may_in _ _ _ _ _ _ h hf)).mono ?_
  rintro e w' ⟨rfl, x, rfl⟩
  have hr := (h.later (x := x)).range hf
  have hxl := bytesU_length (fr G f) 64
  have hsz : (Try.prog.info? 79).map (·.size) = some ((bytesU (fr G f) 64).map Extern.Stop.cell).length := by rw [List.length_map, hxl]; exact Try.frameSize
  clear h
  generalize bytesU (fr G f) 64 = xs at *
  go_wp2_with (first
    | (refine wpList_load_mid rfl 79 (.tmp 14) rfl fb (f * 64) rfl (xs.map Extern.Stop.cell) (.array 64 5) hr Try.underlying79 rfl hsz ?_)
    | (refine wpList_eqz64 rfl 79 79 (.tmp 15) (.tmp 16) rfl 5 Try.underlying79 Try.underlying5 Try.byteRun Try.frameGuard xs hxl rfl rfl _ hcl.out ?_))
  go_ret
  exact ⟨rfl, (by refine (?_ : Bel _ _ _).1; repeat (first | exact hbel | exact Bel.refl _ | apply Bel.later | apply Bel.alloc | apply Bel.drew | (refine Bel.laterB ?_ (by first | exact Nat.le_refl _ | omega | (simp; omega) | simp)) | (refine Bel.setCell ?_ (by first | exact Nat.le_refl _ | omega | (simp; omega) | simp))))⟩

set_option maxHeartbeats 1000000 in
theorem fnew_full (n : Nat) (w : World) (hn : n ≤ 32) :
    Calls Try.prog 7 #[.int .i64 n] w fun e w' => ∃ s fb, e = .returned (.tuple #[.pointer (some ⟨s, 0, none⟩), .int .i64 0]) ∧ w.heap.size ≤ s ∧ w.heap.size ≤ fb ∧ StoAt w' s fb n (fun _ => 0) ∧ Below w.heap.size w w' := by
  obtain ⟨i0, hi, hz0, hz1, hz2⟩ := info_parts Try.infoFrame
  have hn' : (n : Int) ≤ 32 := by omega
  go_enter Try.func7, Try.ntmps7
  go_wp2_with (first | (at_make; refine wpList_make_full _ rfl (.tmp 10) (.tmp 10) 66 rfl w.heap.size 79 i0 (.agg (Array.replicate 64 (.int .u8 0))) 64 Try.underlying66 hi hz0 hz1 _ _ _ _ n rfl rfl (by omega) (by omega) (by rw [hz2]; omega) (by unfold maxLen; omega) (Nat.le_refl _) ?_) | go_in)
  intro w1 hown hgrow
  have hb1 : Below w.heap.size w w1 := ⟨hgrow.os, hgrow.tape, hgrow.output, hgrow.size, fun i hi => hgrow.block i hi (by simp)⟩
  have hfb : ∃ cur : Array Value, w1.heap[w.heap.size]? = some (.cells cur 79 (0, 0)) ∧ cur.size = n * 64 ∧ ∀ i, i < n * 64 → cur[i]? = some (.int .u8 0) := by
    rcases hown.2 with ⟨hx, _⟩ | ⟨g, cap, cur, hx, _, hg, _, _, hs, ht⟩
    · cases hx
    · simp only [Value.slice.injEq, Option.some.injEq, Addr.mk.injEq] at hx
      obtain ⟨⟨rfl, _⟩, _, rfl⟩ := hx
      refine ⟨cur, hg, by omega, fun i hi => ?_⟩
      have h1 : (cur.toList.take (n * 64))[i]? = (madeCells (Array.replicate 64 (Value.int .u8 0)) (n * 64)).toList[i]? := by rw [ht]
      rw [List.getElem?_take, if_pos hi, Array.getElem?_toList] at h1
      rw [h1]
      have hm : i % 64 < 64 := Nat.mod_lt _ (by omega)
      simp [madeCells, hi, hm]
  clear hown hgrow
  go_wp2
  go_ret2
  all_goals
    obtain ⟨cur, q1, q2, q3⟩ := hfb
    refine ⟨w1.heap.size, w.heap.size, rfl, hb1.size, Nat.le_refl _, ⟨hn, ?_, ⟨cur, heap_alloc q1, q2, q3⟩, fun _ => by simp⟩, (Bel.of (Bel.refl w) hb1).alloc.1⟩
    exact Go.heap_alloc_new w1 _

theorem fnew_err (n : Int) (w : World) (hn : n < 0 ∨ 32 < n) :
    Calls Try.prog 7 #[.int .i64 n] w fun e w' => e = .returned (.tuple #[.pointer none, .int .i64 1]) ∧ w = w' := by
  have hn' : n < 0 ∨ (¬ n < 0 ∧ 32 < n) := by omega
  clear hn
  rcases hn' with h | ⟨h, h'⟩
  all_goals
    go_enter Try.func7, Try.ntmps7
    go_wp2
    go_ret2
    exact ⟨rfl, rfl⟩

end Go.Proofs.Ytgcnmhlojfncpaa
