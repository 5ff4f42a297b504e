/- A slice of slices of words, opened. -/
import Derived.Test.YtklgfnboadchmaaMrgE
import Derived.Deep.Slices
import Derived.SizedLaws
namespace Go.Proofs.Ytklgfnboadchmaa
open Go.ChangeShapes Go.WideShapes Go.ChangeAt Go.RowKit Go.Deep
set_option linter.unusedVariables false
set_option maxRecDepth 20000

def RowsU (w : World) (a : Option Addr) (len cap : Nat) : Prop :=
  len ≤ cap ∧ cap ≤ maxLen ∧ (a = none → cap = 0) ∧ ∀ r, r < len → ∃ b off A L C W, a = some ⟨b, off, none⟩ ∧ b < w.heap.size ∧ w.cell? ⟨b, off + r, none⟩ = some (.slice A L C) ∧ L ≤ C ∧ (A = none → C = 0) ∧ L ≤ 140737488355328 ∧ USrc w A L W
section
variable {H : Type} {enc : TypeId × Value → H} {P : Program} {w : World} {base : Nat} {held : Bool}
theorem flats_of_trod {n fuel : Nat} {t e : TypeId} {k : Option IntKind} {ks : List (Option IntKind)} {cs : List Value} {x : DataW H × List MemPlace} (ht : P.underlying t = some (.slice e)) (hf : flatKinds P n e = some (k :: ks)) (hc : P.cellsOf e = (k :: ks).length)
    (h : DataW.trod enc P w base (fun _ => true) held fuel t cs = some x) : ∃ a len cap f, cs = [.slice a len cap] ∧ SliceOk (k :: ks) w a len cap f ∧ ((x.1 = .nil ∧ cap = 0) ∨ ∃ el sp, x.1 = .slice el sp ∧ el.length + sp.length = cap) := by
  rcases open_slice ht h with ⟨hcs, hxd⟩ | ⟨y, l, c, m, n', D, Pl, hcs, _, hl, hm, hmm, hxd, hx⟩
  · exact ⟨none, 0, 0, fun _ => [], hcs, ⟨Nat.le_refl _, Nat.zero_le _, fun _ => rfl, fun h => absurd h (Nat.lt_irrefl _)⟩, .inl ⟨by rw [hxd], rfl⟩⟩
  · simp only [if_true] at hmm
    subst hmm
    obtain ⟨f, hfx⟩ := choose_lt (α := List Value) (p := fun i cs' => w.cells? base (y.add (i * P.cellsOf e)) (P.cellsOf e) = some cs' ∧ rowOk (k :: ks) cs') (fun i hi => by
      obtain ⟨cs', h1, h2⟩ := hx i hi
      exact ⟨cs', h1, flat_of_trod n e _ n' _ _ hf h2⟩)
    refine ⟨_, _, _, f, hcs, ⟨hl, hm, (fun h => by cases h), fun hpos => ?_⟩, .inr ⟨_, _, by rw [hxd], by simp; omega⟩⟩
    obtain ⟨b, off, spot⟩ := y
    have hcell : ∀ i, i < m → ∀ j, j < (k :: ks).length → w.cell? ((⟨b, off, spot⟩ : Addr).add (i * (k :: ks).length + j)) = some ((f i).getD j undef) := by
      intro i hi j hj
      obtain ⟨h1, h2⟩ := hfx i hi
      rw [hc] at h1
      obtain ⟨_, h3, h4⟩ := World.cells?_some h1
      have h5 := h4 j hj
      rw [add_add] at h5
      rw [h5]
      have hlen := rowOk_length h2
      have hjl : j < (f i).length := by omega
      rw [List.getElem?_eq_getElem hjl]
      simp [List.getD, List.getElem?_eq_getElem hjl]
    have hspot : spot = none := by
      have := hcell 0 hpos 0 (by simp)
      simpa [Addr.add] using World.cell?_spot this
    subst hspot
    refine ⟨b, off, rfl, ?_, fun i hi => ⟨(hfx i hi).2, fun j hj => ?_⟩⟩
    · have h0 := hcell 0 hpos 0 (by simp)
      simpa [Addr.add] using World.block_lt_of_cell? w _ h0
    · have := hcell i hi j hj
      rwa [add_plain] at this
theorem weightsAll_mem {e : TypeId} : ∀ {l : List (DataW H)} {d : DataW H}, d ∈ l → ∀ n ∈ d.weights P e, n ∈ DataW.weightsAll P e l
  | d' :: r, d, hd, n, hn => by
    simp only [DataW.weightsAll, List.mem_append]
    rcases List.mem_cons.1 hd with rfl | h
    · exact Or.inl hn
    · exact Or.inr (weightsAll_mem h n hn)
theorem sized_inner {ts : List TypeId} {ds : List (DataW H)} (h : (DataW.weightsEach P ts ds).all (· ≤ reachBytes) = true) {j : Nat} {t e q : TypeId} {elems spare e' sp' : List (DataW H)}
    (ht : ts[j]? = some t) (hd : ds[j]? = some (.slice elems spare)) (hu : P.underlying t = some (.slice e)) (hu2 : P.underlying e = some (.slice q)) (hx : DataW.slice e' sp' ∈ elems) : (e'.length + sp'.length) * P.bytesOf q ≤ reachBytes := by
  refine of_decide_eq_true (List.all_eq_true.1 h _ (DataW.weights_mem_each ht hd _ ?_))
  simp only [DataW.weights, hu, List.mem_cons, List.mem_append]
  exact Or.inr (Or.inl (weightsAll_mem hx _ (by simp [DataW.weights, hu2])))
theorem open_rowsU {r : Reach} {b0 : Nat} {n : Nat} {ts : List TypeId} {ds : List (DataW H)} {j : Nat} {t e q : TypeId} {v : Value} {d : DataW H} {p : List MemPlace} (ht : P.underlying t = some (.slice e)) (hu2 : P.underlying e = some (.slice q)) (hf : flatKinds P n q = some [some .u32]) (hc : P.cellsOf q = 1) (hce : P.cellsOf e = 1) (hbq : P.bytesOf q = 4)
    (hv : Value.okWide P w r b0 t v) (h : DataW.Trod enc P w base (fun _ => true) held t v d p) (hsz : (DataW.weightsEach P ts ds).all (· ≤ reachBytes) = true) (hts : ts[j]? = some t) (hds : ds[j]? = some d) : ∃ a len cap, v = .slice a len cap ∧ RowsU w a len cap := by
  obtain ⟨a, len, cap, rfl⟩ := okWide_slice ht hv
  obtain ⟨fuel, hd⟩ := h
  rcases open_slice1 ht hce hd with ⟨hcs, hxd⟩ | ⟨y, l, c, m, n', V, D, Pl, hcs, _, hl, hm, hmm, hxd, hx⟩
  · simp [Value.cells] at hcs
    obtain ⟨rfl, rfl, rfl⟩ := hcs
    exact ⟨_, _, _, rfl, Nat.le_refl _, Nat.zero_le _, fun _ => rfl, fun r hr => absurd hr (Nat.not_lt_zero _)⟩
  · simp [Value.cells] at hcs
    obtain ⟨rfl, rfl, rfl⟩ := hcs
    simp only [if_true] at hmm
    subst hmm
    simp only [Prod.mk.injEq] at hxd
    refine ⟨_, _, _, rfl, hl, hm, (fun h => by cases h), fun r hr => ?_⟩
    obtain ⟨h1, h2⟩ := hx r (by omega)
    obtain ⟨A, L, C, f, hV, hok, hdat⟩ := flats_of_trod (k := some .u32) (ks := []) hu2 hf hc h2
    simp only [List.cons.injEq, and_true] at hV
    obtain ⟨b, off, spot⟩ := y
    have hspot : spot = none := by simpa [Addr.add] using World.cell?_spot (hx 0 (by omega)).1
    subst hspot
    obtain ⟨W, hU⟩ := usrc_of_ok hok
    rw [add_plain] at h1
    refine ⟨b, off, A, L, C, W, rfl, ?_, by rw [← hV, ← h1], hok.1, hok.2.2.1, ?_, hU⟩
    · exact World.block_lt_of_cell? w _ h1
    · have hLC := hok.1
      rcases hdat with ⟨_, rfl⟩ | ⟨el, sp, hD, hlen⟩
      · omega
      · simp only at hD
        have hin := sized_inner hsz hts (hds.trans (by rw [hxd.1])) ht hu2 (e' := el) (sp' := sp) (List.mem_map.2 ⟨r, List.mem_range.2 hr, hD⟩)
        rw [hlen, hbq] at hin
        simp only [reachBytes] at hin
        omega
end
end Go.Proofs.Ytklgfnboadchmaa
