/- shadow: fresh (slices.Compact, slices.IndexFunc, slices.DeleteFunc of two numbers). -/
import Derived.Test.YthppjkpejnaocaaShC
import Derived.Lib.SliceRun
import Derived.BigFrame
namespace Go.Proofs.Ythppjkpejnaocaa
open Go.ChangeShapes Go.WideShapes Go.ChangeAt Go.RowKit
set_option linter.unusedVariables false

/-- A block of two numbers of the call's own. -/
def Two (w : World) (g : Nat) (x y : Int) : Prop := w.heap[g]? = some (.cells #[.int .i64 x, .int .i64 y] 3 (0, 0))
theorem Two.c0 {w : World} {g : Nat} {x y : Int} (h : Two w g x y) : w.cell? ⟨g, 0, none⟩ = some (.int .i64 x) := (cell_of_row _ _ 0 _ _ _ h).trans rfl
theorem Two.c1 {w : World} {g : Nat} {x y : Int} (h : Two w g x y) : w.cell? ⟨g, 1, none⟩ = some (.int .i64 y) := (cell_of_row _ _ 1 _ _ _ h).trans rfl
theorem Two.z {w : World} {g : Nat} {x y : Int} (h : Two w g x y) (o : Nat) : w.frozen? ⟨g, o, none⟩ = false := by
  unfold Two at h
  simp [World.frozen?, h]
theorem Try.zeroInt (w : World) : (zeroValue 3).run Try.prog w = .ok (.int .i64 0) w := by kernel_rfl
theorem clr0 (a : Option Addr) (c : Nat) (w : World) (ty : TypeId) : (Builtin.clear_ #[25] ty #[.slice a 0 c]).run Try.prog w = .ok (.tuple #[]) w := by
  cases a <;> simp [Builtin.clear_, run_underlying Try.underlying25]
theorem clr1 {w : World} {g : Nat} {x y : Int} (h : Two w g x y) (o c : Nat) (ho : o < 2) (ty : TypeId) : (Builtin.clear_ #[25] ty #[.slice (some ⟨g, o, none⟩) 1 c]).run Try.prog w = .ok (.tuple #[]) (w.setCell ⟨g, o, none⟩ (.int .i64 0)) := by
  have := Lib.run_clear_slice (P := Try.prog) w 25 3 ty (.int .i64 0) Try.underlying25 Try.zeroInt rfl rfl g o 1 c (by omega) (fun j hj => by
    obtain rfl : j = 0 := by omega
    rcases (by omega : o = 0 ∨ o = 1) with rfl | rfl
    · rw [Nat.add_zero, h.c0]; rfl
    · rw [Nat.add_zero, h.c1]; rfl) (fun j hj => h.z _)
  exact this
theorem clr2 {w : World} {g : Nat} {x y : Int} (h : Two w g x y) (c : Nat) (ty : TypeId) : (Builtin.clear_ #[25] ty #[.slice (some ⟨g, 0, none⟩) 2 c]).run Try.prog w = .ok (.tuple #[]) ((w.setCell ⟨g, 0, none⟩ (.int .i64 0)).setCell ⟨g, 1, none⟩ (.int .i64 0)) := by
  have := Lib.run_clear_slice (P := Try.prog) w 25 3 ty (.int .i64 0) Try.underlying25 Try.zeroInt rfl rfl g 0 2 c (by omega) (fun j hj => by
    rcases (by omega : j = 0 ∨ j = 1) with rfl | rfl
    · rw [h.c0]; rfl
    · rw [h.c1]; rfl) (fun j hj => h.z _)
  exact this
theorem Two.set0 {w : World} {g : Nat} {x y u : Int} (h : Two w g x y) : Two (w.setCell ⟨g, 0, none⟩ (.int .i64 u)) g u y := heap_setCell_at (o := 0) h
theorem Two.set1 {w : World} {g : Nat} {x y u : Int} (h : Two w g x y) : Two (w.setCell ⟨g, 1, none⟩ (.int .i64 u)) g x u := heap_setCell_at (o := 1) h
theorem compact_ne (g : Nat) (x y : Int) (hne : ¬ x = y) (w : World) (h : Two w g x y) :
    Calls Try.prog 40 #[.slice (some ⟨g, 0, none⟩) 2 2] w fun e w' => e = .returned (.slice (some ⟨g, 0, none⟩) 2 2) ∧ Below w.heap.size w w' := by
  have c0 := h.c0
  have c1 := h.c1
  have lg := lt_heap h
  have hne' : (y == x) = false := by simpa using fun e => hne e.symm
  go_enter Try.func40, Try.ntmps40
  go_wp2_with fail
  go_loopw [3] (fun kv wr => ∃ k : Nat, 1 ≤ k ∧ k ≤ 2 ∧ kv = .int .i64 k ∧ Below w.heap.size w wr) (fun kv _ => 2 - (intOf kv).toNat)
  case atStart => exact ⟨1, by omega, by omega, rfl, Below.refl _ _⟩
  case round =>
    obtain ⟨k, hk1, hk2, rfl, hb⟩ := hrel
    have r0 := (hb.cell (p := ⟨g, 0, none⟩) lg).trans c0
    have r1 := (hb.cell (p := ⟨g, 1, none⟩) lg).trans c1
    have lg2 := Nat.lt_of_lt_of_le lg hb.size
    rcases (by omega : k = 1 ∨ k = 2) with rfl | rfl
    · go_wp2_with fail
      refine wp_region_later (by kernel_rfl) (by kernel_rfl) ?_
      repeat (first | go_big_quiet_step (fail))
      refine wpQuiet_nil ?_
      intro w9 hw'
      have hb9 : Below wr.heap.size wr w9 := by
        obtain ⟨x9, hw''⟩ := hw'
        subst hw''
        exact later_below wr x9
      clear hw'
      go_wp2_with fail
      go_roundw
      case rel => exact ⟨2, by omega, by omega, by go_num, hb.trans (hb9.mono hb.size)⟩
      case measure => simp [intOf]
    · go_wp2_with fail
      go_ret
      exact ⟨rfl, hb⟩
theorem compact_eq (g : Nat) (x : Int) (w : World) (h : Two w g x x) :
    Calls Try.prog 40 #[.slice (some ⟨g, 0, none⟩) 2 2] w fun e w' => e = .returned (.slice (some ⟨g, 0, none⟩) 1 2) ∧ Two w' g x 0 ∧ Upd g w w' := by
  have c0 := h.c0
  have c1 := h.c1
  have lg := lt_heap h
  have z1 := h.z 1
  go_enter Try.func40, Try.ntmps40
  go_wp2_with fail
  go_loopw [3] (fun kv wr => kv = .int .i64 1 ∧ wr = w) (fun kv _ => 2 - (intOf kv).toNat)
  case atStart => exact ⟨rfl, rfl⟩
  case round =>
    obtain ⟨rfl, rfl⟩ := hrel
    go_wp2_with fail
    refine wp_region_later (by kernel_rfl) (by kernel_rfl) ?_
    repeat (first | go_big_quiet_step (fail))
    refine wpQuiet_nil ?_
    intro w9 hw'
    have hb9 : Below wr.heap.size wr w9 := by
      obtain ⟨x9, hw''⟩ := hw'
      subst hw''
      exact later_below wr x9
    clear hw'
    have h9 : Two w9 g x x := (hb9.block g lg).trans h
    have r0 := h9.c0
    have r1 := h9.c1
    have lg9 := lt_heap h9
    have z9 := h9.z 1
    clear c0 c1 z1
    go_wp2_with fail
    go_loopw [3, 5] (fun av kv wx => av = .int .i64 1 ∧ kv = .int .i64 1 ∧ wx = w9) (fun _ kv _ => 2 - (intOf kv).toNat)
    case atStart => exact ⟨rfl, rfl, rfl⟩
    case round =>
      obtain ⟨rfl, rfl, rfl⟩ := hrel
      have hcl := fun ty => clr1 h9 1 1 (by omega) ty
      have hT := h9.set1 (u := 0)
      have hU := (Upd.of_below hb9).setCell (b := g) (o := 1) (s := none) (u := .int .i64 0)
      go_wp2_with (simp only [hcl])
      go_ret
      exact ⟨rfl, hT, hU⟩
section
variable {b : Nat} {v : Value} {l : List ln}
theorem index_any (g m : Nat) (X : Nat → Int) (hm : m = 1 ∨ m = 2) (w : World) (h : ShIn w b v l) (hn : l.length ≤ 1000) (h2 : Two w g (X 0) (X 1)) (r : Int)
    (hr : r = if tableB l (X 0) = true then 0 else if m = 2 ∧ tableB l (X 1) = true then 1 else -1) :
    Calls Try.prog 42 #[.slice (some ⟨g, 0, none⟩) m 2, .func (.func 11) #[.pointer (some ⟨b, 0, none⟩)] #[]] w fun e w' => e = .returned (.int .i64 r) ∧ w = w' := by
  have c0 := h2.c0
  have c1 := h2.c1
  have lg := lt_heap h2
  have hT := fun p => sh_table p w h hn
  have HR := Lib.hid hr
  clear hr
  go_enter Try.func42, Try.ntmps42
  go_wp2_with fail
  go_loopw [8] (fun iv wr => ∃ i : Nat, i ≤ m ∧ iv = .int .i64 i ∧ (∀ j, j < i → tableB l (X j) = false) ∧ wr = w) (fun iv _ => m - (intOf iv).toNat)
  case atStart => exact ⟨0, Nat.zero_le _, rfl, fun j hj => by omega, rfl⟩
  case round =>
    obtain ⟨i, hi, rfl, hf, rfl⟩ := hrel
    by_cases him : i < m
    · have ci : wr.cell? ⟨g, i, none⟩ = some (.int .i64 (X i)) := by
        rcases (by omega : i = 0 ∨ i = 1) with rfl | rfl
        · exact c0
        · exact c1
      have hTi := hT (X i)
      cases hX : tableB l (X i)
      · rw [hX] at hTi
        have HF := Lib.hid hf
        have HX := Lib.hid hX
        clear hf hX c0 c1 hT
        go_wp2_with fail
        refine hTi.mono ?_
        rintro e w2 ⟨rfl, rfl⟩
        go_wp2
        go_roundw
        case rel => exact ⟨i + 1, by omega, by go_num, fun j hj => by
          by_cases e : j = i
          · rw [e]; exact HX.out
          · exact HF.out j (by omega), by trivial⟩
        case measure => simp [intOf]; omega
      · rw [hX] at hTi
        have hri : r = (i : Int) := by
          rw [HR.out]
          rcases (by omega : i = 0 ∨ i = 1) with rfl | rfl
          · rw [if_pos hX]; rfl
          · rw [if_neg (by rw [hf 0 (by omega)]; simp), if_pos ⟨by omega, hX⟩]; rfl
        have HI := Lib.hid hri
        clear hf hX c0 c1 hT hri
        go_wp2_with fail
        refine hTi.mono ?_
        rintro e w2 ⟨rfl, rfl⟩
        go_wp2
        go_ret
        exact ⟨by rw [HI.out]; rfl, rfl⟩
    · obtain rfl : i = m := by omega
      have hri : r = -1 := by
        rw [HR.out, if_neg (by rw [hf 0 (by omega)]; simp), if_neg (fun x => by rw [hf 1 (by omega)] at x; simp at x)]
      have HI := Lib.hid hri
      clear hf c0 c1 hT hri
      go_wp2
      go_ret
      exact ⟨by rw [HI.out]; rfl, rfl⟩
/-- None is a table. -/
theorem del_none (g m : Nat) (X : Nat → Int) (hm : m = 1 ∨ m = 2) (w : World) (h : ShIn w b v l) (hn : l.length ≤ 1000) (h2 : Two w g (X 0) (X 1)) (t0 : tableB l (X 0) = false) (t1 : m = 2 → tableB l (X 1) = false) :
    Calls Try.prog 39 #[.slice (some ⟨g, 0, none⟩) m 2, .func (.func 11) #[.pointer (some ⟨b, 0, none⟩)] #[]] w fun e w' => e = .returned (.slice (some ⟨g, 0, none⟩) m 2) ∧ w = w' := by
  have hI := index_any g m X hm w h hn h2 (-1) (by rw [if_neg (by rw [t0]; simp), if_neg (fun x => by rw [t1 x.1] at x; simp at x)])
  clear t0 t1
  have c0 := h2.c0
  have c1 := h2.c1
  have lg := lt_heap h2
  have z0 := h2.z 0
  go_enter Try.func39, Try.ntmps39
  go_wp2_with fail
  refine hI.mono ?_
  rintro e w2 ⟨rfl, rfl⟩
  clear hI
  go_wp2
  go_ret
  exact ⟨rfl, rfl⟩
/-- The last one alone is a table. -/
theorem del_last (g m : Nat) (X : Nat → Int) (hm : m = 0 ∨ m = 1) (w : World) (h : ShIn w b v l) (hn : l.length ≤ 1000) (h2 : Two w g (X 0) (X 1)) (t0 : m = 1 → tableB l (X 0) = false) (t1 : tableB l (X m) = true) :
    Calls Try.prog 39 #[.slice (some ⟨g, 0, none⟩) (m + 1) 2, .func (.func 11) #[.pointer (some ⟨b, 0, none⟩)] #[]] w fun e w' => e = .returned (.slice (some ⟨g, 0, none⟩) m 2) ∧ (m = 1 → Two w' g (X 0) 0) ∧ (∃ a c, Two w' g a c) ∧ Upd g w w' := by
  have hI := index_any g (m + 1) X (by omega) w h hn h2 m (by
    rcases hm with rfl | rfl
    · rw [if_pos t1]; rfl
    · rw [if_neg (by rw [t0 rfl]; simp), if_pos ⟨rfl, t1⟩]; rfl)
  clear t0 t1
  rcases hm with rfl | rfl
  ·
    have c0 := h2.c0
    have c1 := h2.c1
    have lg := lt_heap h2
    have z0 := h2.z 0
    go_enter Try.func39, Try.ntmps39
    go_wp2_with fail
    refine hI.mono ?_
    rintro e w2 ⟨rfl, rfl⟩
    clear hI
    go_wp2_with fail
    go_loopw [5, 6] (fun iv jv wr => iv = .int .i64 0 ∧ jv = .int .i64 1 ∧ wr = w) (fun _ _ _ => 0)
    case atStart => exact ⟨rfl, rfl, rfl⟩
    case round =>
      obtain ⟨rfl, rfl, rfl⟩ := hrel
      have hcl := fun c ty => clr1 h2 0 c (by omega) ty
      have hU := (Upd.refl g wr).setCell (o := 0) (s := none) (u := .int .i64 0)
      have hT := h2.set0 (u := 0)
      go_wp2_with (simp only [hcl])
      go_ret
      exact ⟨rfl, (fun h => by cases h), ⟨_, _, hT⟩, hU⟩
  ·
    have c0 := h2.c0
    have c1 := h2.c1
    have lg := lt_heap h2
    have z0 := h2.z 0
    go_enter Try.func39, Try.ntmps39
    go_wp2_with fail
    refine hI.mono ?_
    rintro e w2 ⟨rfl, rfl⟩
    clear hI
    go_wp2_with fail
    go_loopw [5, 6] (fun iv jv wr => iv = .int .i64 1 ∧ jv = .int .i64 2 ∧ wr = w) (fun _ _ _ => 0)
    case atStart => exact ⟨rfl, rfl, rfl⟩
    case round =>
      obtain ⟨rfl, rfl, rfl⟩ := hrel
      have hcl := fun c ty => clr1 h2 1 c (by omega) ty
      have hU := (Upd.refl g wr).setCell (o := 1) (s := none) (u := .int .i64 0)
      have hT := h2.set1 (u := 0)
      go_wp2_with (simp only [hcl])
      go_ret
      exact ⟨rfl, fun _ => hT, ⟨_, _, hT⟩, hU⟩
/-- The first of two is a table. -/
theorem del_two (g : Nat) (X : Nat → Int) (w : World) (h : ShIn w b v l) (hn : l.length ≤ 1000) (h2 : Two w g (X 0) (X 1)) (t0 : tableB l (X 0) = true) :
    Calls Try.prog 39 #[.slice (some ⟨g, 0, none⟩) 2 2, .func (.func 11) #[.pointer (some ⟨b, 0, none⟩)] #[]] w fun e w' => e = .returned (.slice (some ⟨g, 0, none⟩) (if tableB l (X 1) = true then 0 else 1) 2) ∧ (tableB l (X 1) = false → Two w' g (X 1) 0) ∧ (∃ a c, Two w' g a c) ∧ Upd g w w' := by
  have hI := index_any g 2 X (.inr rfl) w h hn h2 0 (by rw [if_pos t0])
  have hT1 := sh_table (X 1) w h hn
  clear t0
  cases tX : tableB l (X 1)
  · rw [tX] at hT1
    rw [if_neg (by simp)]
    clear tX
    have k0 := h2.set0 (u := X 1)
    have hU := (Upd.refl g w).setCell (o := 0) (s := none) (u := .int .i64 (X 1))
    have c0 := h2.c0
    have c1 := h2.c1
    have lg := lt_heap h2
    have z0 := h2.z 0
    go_enter Try.func39, Try.ntmps39
    go_wp2_with fail
    refine hI.mono ?_
    rintro e w2 ⟨rfl, rfl⟩
    clear hI
    go_wp2_with fail
    go_loopw [5, 6] (fun iv jv wr => (iv = .int .i64 0 ∧ jv = .int .i64 1 ∧ wr = w) ∨ (iv = .int .i64 1 ∧ jv = .int .i64 2 ∧ wr = w.setCell ⟨g, 0, none⟩ (.int .i64 (X 1)))) (fun _ jv _ => 2 - (intOf jv).toNat)
    case atStart => exact .inl ⟨rfl, rfl, rfl⟩
    case round =>
      rcases hrel with ⟨rfl, rfl, rfl⟩ | ⟨rfl, rfl, rfl⟩
      · clear hU k0
        go_wp2_with fail
        refine hT1.mono ?_
        rintro e w3 ⟨rfl, rfl⟩
        clear hT1
        go_wp2_with fail
        go_roundw
        case rel => exact .inr ⟨rfl, rfl, by trivial⟩
        case measure => simp [intOf]
      · generalize w.setCell ⟨g, 0, none⟩ (.int .i64 (X 1)) = w4 at *
        have hcl := fun c ty => clr1 k0 1 c (by omega) ty
        have hU2 := hU.setCell (o := 1) (s := none) (u := .int .i64 0)
        have hT2 := k0.set1 (u := 0)
        clear hT1 hU
        go_wp2_with (simp only [hcl])
        go_ret
        exact ⟨rfl, fun _ => hT2, ⟨_, _, hT2⟩, hU2⟩
  · rw [tX] at hT1
    rw [if_pos rfl]
    clear tX
    have c0 := h2.c0
    have c1 := h2.c1
    have lg := lt_heap h2
    have z0 := h2.z 0
    go_enter Try.func39, Try.ntmps39
    go_wp2_with fail
    refine hI.mono ?_
    rintro e w2 ⟨rfl, rfl⟩
    clear hI
    go_wp2_with fail
    go_loopw [5, 6] (fun iv jv wr => iv = .int .i64 0 ∧ (jv = .int .i64 1 ∨ jv = .int .i64 2) ∧ wr = w) (fun _ jv _ => 2 - (intOf jv).toNat)
    case atStart => exact ⟨rfl, .inl rfl, rfl⟩
    case round =>
      obtain ⟨rfl, rfl | rfl, rfl⟩ := hrel
      · go_wp2_with fail
        refine hT1.mono ?_
        rintro e w3 ⟨rfl, rfl⟩
        clear hT1
        go_wp2_with fail
        go_roundw
        case rel => exact ⟨rfl, .inr rfl, by trivial⟩
        case measure => simp [intOf]
      · have hcl := fun c ty => clr2 h2 c ty
        have hU2 := ((Upd.refl g wr).setCell (o := 0) (s := none) (u := .int .i64 0)).setCell (o := 1) (s := none) (u := .int .i64 0)
        have hT2 := (h2.set0 (u := 0)).set1 (u := 0)
        clear hT1
        go_wp2_with (simp only [hcl])
        go_ret
        exact ⟨rfl, (fun h => by cases h), ⟨_, _, hT2⟩, hU2⟩
/-- Which pages are no tables yet. -/
def freshL (l : List ln) (rt lf : Int) : List Int := (if rt = lf then [rt] else if rt < lf then [rt, lf] else [lf, rt]).filter fun p => !tableB l p
theorem ints_two {w : World} {g : Nat} {x y : Int} (h : Two w g x y) : IntsAt .i64 w (some ⟨g, 0, none⟩) 2 [x, y] :=
  ⟨rfl, fun _ => ⟨g, 0, rfl, lt_heap h, fun i hi => by
    rcases (by omega : i = 0 ∨ i = 1) with rfl | rfl
    · exact h.c0
    · exact h.c1⟩⟩
theorem ints_one {w : World} {g : Nat} {x y : Int} (h : Two w g x y) : IntsAt .i64 w (some ⟨g, 0, none⟩) 1 [x] :=
  ⟨rfl, fun _ => ⟨g, 0, rfl, lt_heap h, fun i hi => by
    obtain rfl : i = 0 := by omega
    exact h.c0⟩⟩
theorem ints_none {w : World} (a : Option Addr) : IntsAt .i64 w a 0 [] := ⟨rfl, fun h => absurd h (by omega)⟩
set_option maxHeartbeats 1000000 in
theorem sh_fresh (rt lf : Int) (w : World) (h : ShIn w b v l) (hn : l.length ≤ 1000) :
    Calls Try.prog 33 #[.pointer (some ⟨b, 0, none⟩), .int .i64 rt, .int .i64 lf] w fun e w' => ∃ g k, e = .returned (.slice (some ⟨g, 0, none⟩) k 2) ∧ w.heap.size ≤ g ∧ IntsAt .i64 w' (some ⟨g, 0, none⟩) k (freshL l rt lf) ∧ (∃ cur, w'.heap[g]? = some (.cells cur 3 (0, 0))) ∧ Below w.heap.size w w' := by
  by_cases heq : rt = lf
  · subst heq
    have hA := h.alloc (ob := .cells #[.int .i64 rt, .int .i64 rt] 3)
    have hB := (Bel.refl w).alloc (o := .cells #[.int .i64 rt, .int .i64 rt] 3)
    have h2 : Two (w.alloc (.cells #[.int .i64 rt, .int .i64 rt] 3)) w.heap.size rt rt := Go.heap_alloc_new w _
    have hC := compact_eq w.heap.size rt _ h2
    obtain ⟨W, hW⟩ : ∃ W, w.alloc (.cells #[.int .i64 rt, .int .i64 rt] 3) = W := ⟨_, rfl⟩
    have hfr : freshL l rt rt = [rt].filter fun p => !tableB l p := by rw [freshL, if_pos rfl]
    have HFr := Lib.hid hfr
    clear hfr
    go_enter Try.func33, Try.ntmps33
    go_wp2_with fail
    rw [hW] at hA hB h2 hC
    clear hW
    go_wp2_with fail
    refine hC.mono ?_
    rintro e w2 ⟨rfl, h3, u2⟩
    have hgs : w.heap.size ≤ w.heap.size := Nat.le_refl _
    have hA2 : ShIn w2 b v l := hA.upd u2 (by have := h.lt; omega) (fun e => by
      obtain ⟨c, hc⟩ := own_typR hA.2 e
      exact absurd (typ_same hc h2) (by decide))
    have hB2 := hB.upd u2 hgs
    clear hC hA hB u2
    cases t0 : tableB l rt
    · have hD := del_none w.heap.size 1 (fun i => if i = 0 then rt else 0) (.inl rfl) w2 hA2 hn h3 t0 (fun h => by cases h)
      have hfl : freshL l rt rt = [rt] := by rw [HFr.out]; simp [t0]
      have HL := Lib.hid hfl
      clear t0 hfl
      go_wp2_with fail
      refine hD.mono ?_
      rintro e w3 ⟨rfl, rfl⟩
      go_wp2
      go_ret
      exact ⟨_, 1, rfl, hgs, by rw [HL.out]; exact ints_one h3, ⟨_, h3⟩, hB2.1⟩
    · have hD := del_last w.heap.size 0 (fun i => if i = 0 then rt else 0) (.inl rfl) w2 hA2 hn h3 (fun h => by cases h) t0
      have hfl : freshL l rt rt = [] := by rw [HFr.out]; simp [t0]
      have HL := Lib.hid hfl
      clear t0 hfl
      go_wp2_with fail
      refine hD.mono ?_
      rintro e w3 ⟨rfl, _, ⟨ta, tc, hT5⟩, u3⟩
      have hB3 := hB2.upd u3 hgs
      go_wp2
      go_ret
      exact ⟨_, 0, rfl, hgs, by rw [HL.out]; exact ints_none _, ⟨_, hT5⟩, hB3.1⟩
  · by_cases hlt : rt < lf
    · obtain ⟨lo, hlo⟩ : ∃ lo, lo = rt := ⟨_, rfl⟩
      obtain ⟨hi, hhi⟩ : ∃ hi, hi = lf := ⟨_, rfl⟩
      have hne : ¬ lo = hi := by omega
      have hle : lo ≤ hi := by omega
      have hfr : freshL l rt lf = [lo, hi].filter fun p => !tableB l p := by rw [freshL, if_neg heq, if_pos hlt, hlo, hhi]
      subst hlo
      subst hhi
      obtain ⟨rt, hrt⟩ : ∃ rt, rt = lo := ⟨_, rfl⟩
      obtain ⟨lf, hlf⟩ : ∃ lf, lf = hi := ⟨_, rfl⟩
      have hfr2 := hfr
      rw [show freshL l lo hi = freshL l rt lf by rw [hrt, hlf]] at hfr ⊢
      clear hrt hlf hfr2 heq
      have hA := h.alloc (ob := .cells #[.int .i64 lo, .int .i64 hi] 3)
      have hB := (Bel.refl w).alloc (o := .cells #[.int .i64 lo, .int .i64 hi] 3)
      have h2 : Two (w.alloc (.cells #[.int .i64 lo, .int .i64 hi] 3)) w.heap.size lo hi := Go.heap_alloc_new w _
      have hC := compact_ne w.heap.size lo hi hne _ h2
      obtain ⟨W, hW⟩ : ∃ W, w.alloc (.cells #[.int .i64 lo, .int .i64 hi] 3) = W := ⟨_, rfl⟩
      go_enter Try.func33, Try.ntmps33
      go_wp2_with fail
      rw [hW] at hA hB h2 hC
      clear hW
      go_wp2_with fail
      refine hC.mono ?_
      rintro e w2 ⟨rfl, b2⟩
      have hA2 := hA.below b2
      have h3 : Two w2 w.heap.size lo hi := (b2.block w.heap.size (lt_heap h2)).trans h2
      have hB2 := hB.of b2
      have hgs : w.heap.size ≤ w.heap.size := Nat.le_refl _
      have HFr := Lib.hid hfr
      clear hfr hC hA hB b2
      cases t0 : tableB l lo
      · cases t1 : tableB l hi
        · have hD := del_none w.heap.size 2 (fun i => if i = 0 then lo else hi) (.inr rfl) w2 hA2 hn h3 t0 (fun _ => t1)
          have hfl : freshL l rt lf = [lo, hi] := by rw [HFr.out]; simp [t0, t1]
          have HL := Lib.hid hfl
          clear t0 t1 hfl
          go_wp2_with fail
          refine hD.mono ?_
          rintro e w3 ⟨rfl, rfl⟩
          go_wp2
          go_ret
          exact ⟨_, 2, rfl, hgs, by rw [HL.out]; exact ints_two h3, ⟨_, h3⟩, hB2.1⟩
        · have hD := del_last w.heap.size 1 (fun i => if i = 0 then lo else hi) (.inr rfl) w2 hA2 hn h3 (fun _ => t0) t1
          have hfl : freshL l rt lf = [lo] := by rw [HFr.out]; simp [t0, t1]
          have HL := Lib.hid hfl
          clear t0 t1 hfl
          go_wp2_with fail
          refine hD.mono ?_
          rintro e w3 ⟨rfl, hT3, _, u3⟩
          have hT4 : Two w3 w.heap.size lo 0 := by first | exact hT3 rfl | exact hT3 trivial
          have hB3 := hB2.upd u3 hgs
          go_wp2
          go_ret
          exact ⟨_, 1, rfl, hgs, by rw [HL.out]; exact ints_one hT4, ⟨_, hT4⟩, hB3.1⟩
      · have hD := del_two w.heap.size (fun i => if i = 0 then lo else hi) w2 hA2 hn h3 t0
        have hfl : freshL l rt lf = if tableB l hi = true then [] else [hi] := by
          rw [HFr.out]
          cases t1 : tableB l hi <;> simp [t0, t1]
        have hX1 : (if (1 : Nat) = 0 then lo else hi) = hi := rfl
        rw [hX1] at hD
        have HL := Lib.hid hfl
        obtain ⟨cur2, hcur2⟩ : ∃ cur, w2.heap[w.heap.size]? = some (.cells cur 3 (0, 0)) := ⟨_, h3⟩
        clear t0 hfl hX1
        cases t1 : tableB l hi
        · rw [t1, if_neg (by simp)] at hD
          have hfl : freshL l rt lf = [hi] := by rw [HL.out, if_neg (by rw [t1]; simp)]
          have HL2 := Lib.hid hfl
          clear t1 hfl
          go_wp2_with fail
          refine hD.mono ?_
          rintro e w3 ⟨rfl, hT3, _, u3⟩
          have hT4 : Two w3 w.heap.size hi 0 := by first | exact hT3 rfl | exact hT3 trivial
          have hB3 := hB2.upd u3 hgs
          go_wp2
          go_ret
          exact ⟨_, 1, rfl, hgs, by rw [HL2.out]; exact ints_one hT4, ⟨_, hT4⟩, hB3.1⟩
        · rw [t1, if_pos rfl] at hD
          have hfl : freshL l rt lf = [] := by rw [HL.out, if_pos t1]
          have HL2 := Lib.hid hfl
          clear t1 hfl
          go_wp2_with fail
          refine hD.mono ?_
          rintro e w3 ⟨rfl, _, ⟨ta, tc, hT5⟩, u3⟩
          have hB3 := hB2.upd u3 hgs
          go_wp2
          go_ret
          exact ⟨_, 0, rfl, hgs, by rw [HL2.out]; exact ints_none _, ⟨_, hT5⟩, hB3.1⟩
    · obtain ⟨lo, hlo⟩ : ∃ lo, lo = lf := ⟨_, rfl⟩
      obtain ⟨hi, hhi⟩ : ∃ hi, hi = rt := ⟨_, rfl⟩
      have hne : ¬ lo = hi := by omega
      have hle : ¬ hi ≤ lo := by omega
      have hfr : freshL l rt lf = [lo, hi].filter fun p => !tableB l p := by rw [freshL, if_neg heq, if_neg hlt, hlo, hhi]
      subst hlo
      subst hhi
      obtain ⟨rt, hrt⟩ : ∃ rt, rt = hi := ⟨_, rfl⟩
      obtain ⟨lf, hlf⟩ : ∃ lf, lf = lo := ⟨_, rfl⟩
      have hfr2 := hfr
      rw [show freshL l hi lo = freshL l rt lf by rw [hrt, hlf]] at hfr ⊢
      clear hrt hlf hfr2 heq
      have hA := h.alloc (ob := .cells #[.int .i64 lo, .int .i64 hi] 3)
      have hB := (Bel.refl w).alloc (o := .cells #[.int .i64 lo, .int .i64 hi] 3)
      have h2 : Two (w.alloc (.cells #[.int .i64 lo, .int .i64 hi] 3)) w.heap.size lo hi := Go.heap_alloc_new w _
      have hC := compact_ne w.heap.size lo hi hne _ h2
      obtain ⟨W, hW⟩ : ∃ W, w.alloc (.cells #[.int .i64 lo, .int .i64 hi] 3) = W := ⟨_, rfl⟩
      go_enter Try.func33, Try.ntmps33
      go_wp2_with fail
      rw [hW] at hA hB h2 hC
      clear hW
      go_wp2_with fail
      refine hC.mono ?_
      rintro e w2 ⟨rfl, b2⟩
      have hA2 := hA.below b2
      have h3 : Two w2 w.heap.size lo hi := (b2.block w.heap.size (lt_heap h2)).trans h2
      have hB2 := hB.of b2
      have hgs : w.heap.size ≤ w.heap.size := Nat.le_refl _
      have HFr := Lib.hid hfr
      clear hfr hC hA hB b2
      cases t0 : tableB l lo
      · cases t1 : tableB l hi
        · have hD := del_none w.heap.size 2 (fun i => if i = 0 then lo else hi) (.inr rfl) w2 hA2 hn h3 t0 (fun _ => t1)
          have hfl : freshL l rt lf = [lo, hi] := by rw [HFr.out]; simp [t0, t1]
          have HL := Lib.hid hfl
          clear t0 t1 hfl
          go_wp2_with fail
          refine hD.mono ?_
          rintro e w3 ⟨rfl, rfl⟩
          go_wp2
          go_ret
          exact ⟨_, 2, rfl, hgs, by rw [HL.out]; exact ints_two h3, ⟨_, h3⟩, hB2.1⟩
        · have hD := del_last w.heap.size 1 (fun i => if i = 0 then lo else hi) (.inr rfl) w2 hA2 hn h3 (fun _ => t0) t1
          have hfl : freshL l rt lf = [lo] := by rw [HFr.out]; simp [t0, t1]
          have HL := Lib.hid hfl
          clear t0 t1 hfl
          go_wp2_with fail
          refine hD.mono ?_
          rintro e w3 ⟨rfl, hT3, _, u3⟩
          have hT4 : Two w3 w.heap.size lo 0 := by first | exact hT3 rfl | exact hT3 trivial
          have hB3 := hB2.upd u3 hgs
          go_wp2
          go_ret
          exact ⟨_, 1, rfl, hgs, by rw [HL.out]; exact ints_one hT4, ⟨_, hT4⟩, hB3.1⟩
      · have hD := del_two w.heap.size (fun i => if i = 0 then lo else hi) w2 hA2 hn h3 t0
        have hfl : freshL l rt lf = if tableB l hi = true then [] else [hi] := by
          rw [HFr.out]
          cases t1 : tableB l hi <;> simp [t0, t1]
        have hX1 : (if (1 : Nat) = 0 then lo else hi) = hi := rfl
        rw [hX1] at hD
        have HL := Lib.hid hfl
        obtain ⟨cur2, hcur2⟩ : ∃ cur, w2.heap[w.heap.size]? = some (.cells cur 3 (0, 0)) := ⟨_, h3⟩
        clear t0 hfl hX1
        cases t1 : tableB l hi
        · rw [t1, if_neg (by simp)] at hD
          have hfl : freshL l rt lf = [hi] := by rw [HL.out, if_neg (by rw [t1]; simp)]
          have HL2 := Lib.hid hfl
          clear t1 hfl
          go_wp2_with fail
          refine hD.mono ?_
          rintro e w3 ⟨rfl, hT3, _, u3⟩
          have hT4 : Two w3 w.heap.size hi 0 := by first | exact hT3 rfl | exact hT3 trivial
          have hB3 := hB2.upd u3 hgs
          go_wp2
          go_ret
          exact ⟨_, 1, rfl, hgs, by rw [HL2.out]; exact ints_one hT4, ⟨_, hT4⟩, hB3.1⟩
        · rw [t1, if_pos rfl] at hD
          have hfl : freshL l rt lf = [] := by rw [HL.out, if_pos t1]
          have HL2 := Lib.hid hfl
          clear t1 hfl
          go_wp2_with fail
          refine hD.mono ?_
          rintro e w3 ⟨rfl, _, ⟨ta, tc, hT5⟩, u3⟩
          have hB3 := hB2.upd u3 hgs
          go_wp2
          go_ret
          exact ⟨_, 0, rfl, hgs, by rw [HL2.out]; exact ints_none _, ⟨_, hT5⟩, hB3.1⟩
end
end Go.Proofs.Ythppjkpejnaocaa
