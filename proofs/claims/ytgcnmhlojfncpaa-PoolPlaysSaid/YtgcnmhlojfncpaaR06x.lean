/- The reference's store of frames: New with its rows; what only reads. -/
import Derived.Test.YtgcnmhlojfncpaaFrmY
namespace Go.Proofs.Ytgcnmhlojfncpaa
open Go.ChangeShapes Go.WideShapes Go.ChangeAt Go.RowKit
set_option linter.unusedVariables false

/-- The reference's store of n frames. -/
def RStoAt (w : World) (t rb n : Nat) (G : Nat → Int) : Prop :=
  n ≤ 32 ∧ Byt G ∧ ∃ v : Value, w.heap[t]? = some (.cells #[v] 75 (0, 0)) ∧
   ((n = 0 ∧ v = .slice none 0 0) ∨ ∃ c cur, v = .slice (some ⟨rb, 0, none⟩) n c ∧ n ≤ c ∧ c ≤ maxLen ∧ w.heap[rb]? = some (.cells cur 22 (0, 0)) ∧ n ≤ cur.size ∧
     ∀ f, f < n → ∃ g c', cur[f]? = some (.slice (some ⟨g, 0, none⟩) 64 c') ∧ 64 ≤ c' ∧ c' ≤ maxLen ∧ RowAt w g 64 (fr G f))
theorem RStoAt.below {w w' : World} {t rb n : Nat} {G : Nat → Int} (h : RStoAt w t rb n G) (hb : Below w.heap.size w w') : RStoAt w' t rb n G := by
  obtain ⟨hn, hG, v, h1, h2⟩ := h
  refine ⟨hn, hG, v, (hb.block t (lt_heap h1)).trans h1, ?_⟩
  rcases h2 with h2 | ⟨c, cur, q1, q2, q3, q4, q5, q6⟩
  · exact .inl h2
  · exact .inr ⟨c, cur, q1, q2, q3, (hb.block rb (lt_heap q4)).trans q4, q5, fun f hf => let ⟨g, c', r1, r2, r3, r4⟩ := q6 f hf; ⟨g, c', r1, r2, r3, r4.below hb⟩⟩
theorem RStoAt.later {w : World} {t rb n : Nat} {G : Nat → Int} {x : Lat w} (h : RStoAt w t rb n G) : RStoAt (Proofs.Ytgcnmhlojfncpaa.later w x) t rb n G := h.below (later_below w x)
theorem RStoAt.alloc {w : World} {t rb n : Nat} {G : Nat → Int} {o : Obj} (h : RStoAt w t rb n G) : RStoAt (w.alloc o) t rb n G := h.below (Bel.refl w).alloc.1
theorem RStoAt.drew {w : World} {t rb n : Nat} {G : Nat → Int} (h : RStoAt w t rb n G) : RStoAt w.drew t rb n G := h
theorem RowAt.upd {w w' : World} {g n b : Nat} {f : Nat → Int} (h : RowAt w g n f) (hu : Upd b w w') (hne : g ≠ b) : RowAt w' g n f :=
  let ⟨cur, hg, hc⟩ := h; ⟨cur, heap_upd hg hu hne, hc⟩
/-- Another kind of block is written. -/
theorem RStoAt.upd {w w' : World} {t rb n b : Nat} {G : Nat → Int} (h : RStoAt w t rb n G) (hu : Upd b w w') {c : Array Value} {ty : TypeId} {f : Nat × Nat} (hb : w.heap[b]? = some (.cells c ty f))
    (h1 : 75 ≠ ty) (h2 : 22 ≠ ty) (h3 : 5 ≠ ty) : RStoAt w' t rb n G := by
  obtain ⟨hn, hG, v, q1, q2⟩ := h
  refine ⟨hn, hG, v, heap_upd q1 hu (types_ne q1 hb h1), ?_⟩
  rcases q2 with q2 | ⟨c, cur, q2, q3, q4, q5, q6, q7⟩
  · exact .inl q2
  · exact .inr ⟨c, cur, q2, q3, q4, heap_upd q5 hu (types_ne q5 hb h2), q6, fun f hf => let ⟨g, c', r1, r2, r3, r4⟩ := q7 f hf; ⟨g, c', r1, r2, r3, r4.upd hu (let ⟨_, x, _⟩ := r4; types_ne x hb h3)⟩⟩
theorem RStoAt.lt {w : World} {t rb n : Nat} {G : Nat → Int} (h : RStoAt w t rb n G) : t < w.heap.size := let ⟨_, _, _, h1, _⟩ := h; lt_heap h1
/-- Its slice. -/
theorem RStoAt.cell0 {w : World} {t rb n : Nat} {G : Nat → Int} (h : RStoAt w t rb n G) : ∃ q c, w.cell? ⟨t, 0, none⟩ = some (.slice q n c) := by
  obtain ⟨_, _, v, h1, h2⟩ := h
  have hc : w.cell? ⟨t, 0, none⟩ = some v := by simp [World.cell?, h1]
  rcases h2 with ⟨rfl, rfl⟩ | ⟨c, cur, rfl, _⟩
  · exact ⟨_, _, hc⟩
  · exact ⟨_, _, hc⟩
/-- Where it has a frame. -/
theorem RStoAt.row {w : World} {t rb n : Nat} {G : Nat → Int} (h : RStoAt w t rb n G) {f : Nat} (hf : f < n) : ∃ c g c', w.cell? ⟨t, 0, none⟩ = some (.slice (some ⟨rb, 0, none⟩) n c) ∧ n ≤ c ∧ c ≤ maxLen ∧ rb < w.heap.size ∧
    w.cell? ⟨rb, f, none⟩ = some (.slice (some ⟨g, 0, none⟩) 64 c') ∧ w.frozen? ⟨rb, f, none⟩ = false ∧ 64 ≤ c' ∧ c' ≤ maxLen ∧ RowAt w g 64 (fr G f) := by
  obtain ⟨_, _, v, h1, h2⟩ := h
  rcases h2 with ⟨rfl, rfl⟩ | ⟨c, cur, rfl, q2, q3, q4, q5, q6⟩
  · omega
  · obtain ⟨g, c', r1, r2, r3, r4⟩ := q6 f hf
    exact ⟨c, g, c', by simp [World.cell?, h1], q2, q3, lt_heap q4, by simp [World.cell?, q4, r1], by simp [World.frozen?, q4], r2, r3, r4⟩
/-- A row is another one. -/
theorem RStoAt.set {w : World} {t rb n : Nat} {G G' : Nat → Int} (h : RStoAt w t rb n G) {f g c' : Nat} (hf : f < n) (hG : Byt G') (ho : ∀ k, k < n → k ≠ f → ∀ i, i < 64 → G' (k * 64 + i) = G (k * 64 + i))
    (h64 : 64 ≤ c') (hm : c' ≤ maxLen) (hr : RowAt w g 64 (fr G' f)) : RStoAt (w.setCell ⟨rb, f, none⟩ (.slice (some ⟨g, 0, none⟩) 64 c')) t rb n G' := by
  obtain ⟨hn, _, v, h1, h2⟩ := h
  rcases h2 with ⟨rfl, rfl⟩ | ⟨c, cur, rfl, q2, q3, q4, q5, q6⟩
  · omega
  · have hu : Upd rb w (w.setCell ⟨rb, f, none⟩ (.slice (some ⟨g, 0, none⟩) 64 c')) := Upd.setCell (Upd.refl rb w)
    have hrow : ∀ {g' : Nat} {F : Nat → Int}, RowAt w g' 64 F → RowAt (w.setCell ⟨rb, f, none⟩ (.slice (some ⟨g, 0, none⟩) 64 c')) g' 64 F := fun r => r.upd hu (let ⟨_, x, _⟩ := r; types_ne x q4 (by decide))
    refine ⟨hn, hG, _, heap_upd h1 hu (types_ne h1 q4 (by decide)), .inr ⟨c, _, rfl, q2, q3, heap_setCell_at q4, by simpa using q5, fun k hk => ?_⟩⟩
    by_cases e : k = f
    · subst e
      exact ⟨g, c', by simp [show k < cur.size by omega], h64, hm, hrow hr⟩
    · obtain ⟨g', c'', r1, r2, r3, r4⟩ := q6 k hk
      refine ⟨g', c'', by rw [Array.getElem?_setIfInBounds_ne (fun h => e h.symm)]; exact r1, r2, r3, hrow ?_⟩
      obtain ⟨cu, s1, s2, _⟩ := r4
      exact ⟨cu, s1, fun i hi => by rw [s2 i hi]; unfold fr; rw [ho k hk e i hi], fr_byt hG k⟩

theorem zeros64_row {w : World} {g : Nat} (h : w.heap[g]? = some (.cells zeros64 5 (0, 0))) : RowAt w g 64 (fun _ => 0) :=
  ⟨_, h, fun i hi => by simp [zeros64, hi], fun _ => by simp⟩

set_option maxRecDepth 100000 in
set_option maxHeartbeats 1000000 in
theorem rnew_full (n : Nat) (w : World) (hn : n ≤ 32) :
    Calls Try.prog 16 #[.int .i64 n] w fun e w' => ∃ t rb, e = .returned (.tuple #[.pointer (some ⟨t, 0, none⟩), .int .i64 0]) ∧ w.heap.size ≤ t ∧ w.heap.size ≤ rb ∧ RStoAt w' t rb n (fun _ => 0) ∧ Below w.heap.size w w' := by
  obtain ⟨i0, hi, hz0, hz1, hz2⟩ := info_parts Try.infoRow
  have hmk : ∀ w : World, (Instr.makeSlice 22 (.int .i64 64) (.int .i64 64)).run Try.prog w = .ok (.slice (some ⟨w.heap.size, 0, none⟩) 64 64) (w.alloc (.cells zeros64 5)) := fun _ => by kernel_rfl
  have hn' : (n : Int) ≤ 32 := by omega
  go_enter Try.func16, Try.ntmps16
  go_wp2
  go_loopw [5] (fun i wr => ∃ (k : Nat) (v : Value) (xs : List Value), k ≤ n ∧ i = .int .i64 k ∧ Bel w.heap.size w wr ∧ wr.heap[w.heap.size]? = some (.cells #[v] 75 (0, 0)) ∧ wr.ownsRow (w.heap.size + 1) 22 1 v k xs ∧ xs.length = k ∧
      ∀ f, f < k → ∃ g, xs[f]? = some (.slice (some ⟨g, 0, none⟩) 64 64) ∧ wr.heap[g]? = some (.cells zeros64 5 (0, 0))) (fun i _ => n - (intOf i).toNat)
  case atStart => exact ⟨0, .slice none 0 0, [], Nat.zero_le _, rfl, (Bel.refl w).alloc, Go.heap_alloc_new w _, World.ownsRow_nil _ _ _ _, rfl, fun f hf => absurd hf (by omega)⟩
  case round =>
    obtain ⟨k, v, xs, hk, rfl, hbel, hR, hown, hxl, hrows⟩ := hrel
    have hsz : w.heap.size + 1 ≤ wr.heap.size := lt_heap hR
    have hsz0 : w.heap.size < wr.heap.size := hsz
    have hsz1 : w.heap.size < wr.heap.size + 1 := by omega
    have Hrows := Lib.hid hrows
    have Hxl := Lib.hid hxl
    clear hrows hxl
    by_cases hlt : k < n
    · have q0 : wr.cell? ⟨w.heap.size, 0, none⟩ = some v := by simp [World.cell?, hR]
      have q1 : wr.frozen? ⟨w.heap.size, 0, none⟩ = false := by simp [World.frozen?, hR]
      have hown2 := (hown.drew.alloc (.cells zeros64 5)).alloc (.cells #[.slice (some ⟨wr.heap.size, 0, none⟩) 64 64] 22)
      have hnb : ((wr.alloc (.cells zeros64 5)).alloc (.cells #[.slice (some ⟨wr.heap.size, 0, none⟩) 64 64] 22)).heap[wr.heap.size + 1]? = some (.cells #[.slice (some ⟨wr.heap.size, 0, none⟩) 64 64] 22 (0, 0)) := by
        have := Go.heap_alloc_new (wr.alloc (.cells zeros64 5)) (.cells #[.slice (some ⟨wr.heap.size, 0, none⟩) 64 64] 22)
        rw [show (wr.alloc (.cells zeros64 5)).heap.size = wr.heap.size + 1 from by simp] at this
        exact this
      have hne : some w.heap.size ≠ v.ownBlock := fun h => by have := (hown.lt _ h.symm).1; omega
      have hbel2 : Bel w.heap.size w _ := (hbel.alloc (o := .cells zeros64 5)).alloc (o := .cells #[.slice (some ⟨wr.heap.size, 0, none⟩) 64 64] 22) |>.drew
      go_wp2
      go_region_law ((refine step_append_lies _ (by rfl) _ _ _ (by rfl) (w.heap.size + 1) 22 i0 _ 1 24 Try.underlying73 hi hz0 hz1 hz2 rfl (by omega) v k xs (by rfl) hown2 ⟨wr.heap.size + 1, 0, none⟩ 1 1 [.slice (some ⟨wr.heap.size, 0, none⟩) 64 64] (by rfl) (by rfl) (World.news_of_block (cs := #[.slice (some ⟨wr.heap.size, 0, none⟩) 64 64]) (t := 22) (fr := (0, 0)) hnb) (by simp [Value.oneCell']) (by omega) (by unfold maxLen; omega) (by omega) (by simp; omega) (wr.heap.size + 2) (by simp) ?_; intro g cap w1 hown1 hgrow hat hlt1; have hR1 : w1.heap[w.heap.size]? = some (.cells #[v] 75 (0, 0)) := (hgrow.block w.heap.size (by simp; omega) hne).trans (heap_alloc (heap_alloc hR)); have r0 : w1.cell? ⟨w.heap.size, 0, none⟩ = some v := (by simp [World.cell?, hR1]); have r1 : w1.frozen? ⟨w.heap.size, 0, none⟩ = false := (by simp [World.frozen?, hR1])))
      all_goals
        go_wp2
        go_roundw
        case rel =>
          refine ⟨k + 1, _, _, by omega, by go_num, Bel.setCell ⟨hbel2.1.grown hgrow hbel2.2 (fun q hq => by have := (hown.lt q hq).1; omega), Nat.le_trans hbel2.2 hgrow.size⟩ (Nat.le_refl _), heap_setCell_at (o := 0) hR1, ownsRow_otherC (b := 0) hown1 (by simp), by simp [Hxl.out], ?_⟩
          have hkeep : ∀ g' : Nat, ((wr.alloc (.cells zeros64 5)).alloc (.cells #[.slice (some ⟨wr.heap.size, 0, none⟩) 64 64] 22)).heap[g']? = some (.cells zeros64 5 (0, 0)) → w1.heap[g']? = some (.cells zeros64 5 (0, 0)) := by
            intro g' hg'
            refine (hgrow.block g' (lt_heap hg') ?_).trans hg'
            intro e
            rcases hown2.2 with ⟨rfl, _⟩ | ⟨q, cap', cur', rfl, _, hq, _⟩
            · cases e
            · cases e
              exact types_ne hg' hq (by decide) rfl
          have hset : ∀ (g' : Nat) (u : Value), w1.heap[g']? = some (.cells zeros64 5 (0, 0)) → (w1.setCell ⟨w.heap.size, 0, none⟩ u).heap[g']? = some (.cells zeros64 5 (0, 0)) := fun g' u hg' => heap_setCell_ne hg' (types_ne hg' hR1 (by decide))
          intro f hf
          by_cases e : f < k
          · obtain ⟨g', h1, h2⟩ := Hrows.out f e
            exact ⟨g', by rw [List.getElem?_append_left (by rw [Hxl.out]; exact e)]; exact h1, hset _ _ (hkeep g' (heap_alloc (heap_alloc h2)))⟩
          · obtain rfl : f = k := by omega
            refine ⟨wr.heap.size, by rw [List.getElem?_append_right (by rw [Hxl.out]; omega)]; simp [Hxl.out], hset _ _ (hkeep _ (heap_alloc (Go.heap_alloc_new wr _)))⟩
        case measure => simp [intOf]; omega
    · obtain rfl : k = n := by omega
      have hfin : ∃ rb, w.heap.size ≤ rb ∧ RStoAt wr w.heap.size rb k (fun _ => 0) := by
        rcases hown.2 with ⟨rfl, h0⟩ | ⟨q, cap, cur, rfl, hqb, hq, hle, hm, hs, ht⟩
        · exact ⟨w.heap.size, Nat.le_refl _, hn, fun _ => by simp, _, hR, .inl ⟨h0, by subst h0; rfl⟩⟩
        · refine ⟨q, by omega, hn, fun _ => by simp, _, hR, .inr ⟨cap, cur, rfl, hle, hm, hq, by omega, fun f hf => ?_⟩⟩
          obtain ⟨g, h1, h2⟩ := Hrows.out f hf
          rw [← ht, List.getElem?_take, if_pos (by omega), Array.getElem?_toList] at h1
          exact ⟨g, 64, h1, Nat.le_refl _, by unfold maxLen; omega, zeros64_row h2⟩
      go_wp2
      go_ret2
      obtain ⟨rb, hrb, hst⟩ := hfin
      exact ⟨_, rb, rfl, Nat.le_refl _, hrb, hst, hbel.1⟩

theorem rnew_err (n : Int) (w : World) (hn : n < 0 ∨ 32 < n) :
    Calls Try.prog 16 #[.int .i64 n] w fun e w' => e = .returned (.tuple #[.pointer none, .int .i64 1]) ∧ w = w' := by
  have hn' : n < 0 ∨ (¬ n < 0 ∧ 32 < n) := by omega
  clear hn
  rcases hn' with h | ⟨h, h'⟩
  all_goals
    go_enter Try.func16, Try.ntmps16
    go_wp2
    go_ret2
    exact ⟨rfl, rfl⟩

end Go.Proofs.Ytgcnmhlojfncpaa
