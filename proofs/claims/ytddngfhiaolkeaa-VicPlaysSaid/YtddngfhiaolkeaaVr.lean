/- The lines: Reset. -/
import Derived.Test.YtddngfhiaolkeaaVp
import Derived.Test.YtddngfhiaolkeaaRowS
namespace Go.Proofs.Ytddngfhiaolkeaa
open Go.ChangeShapes Go.WideShapes Go.ChangeAt Go.RowKit
set_option linter.unusedVariables false

/-- A block that is written anew, whole. -/
theorem heap_setCells_all {w : World} {b : Nat} {cur : Array Value} {t : TypeId} {fr : Nat × Nat} (cs : List Value) (h : w.heap[b]? = some (.cells cur t fr)) (hl : cs.length = cur.size) : (w.setCells b 0 cs).heap[b]? = some (.cells cs.toArray t fr) := by
  obtain ⟨cs', h1, h2⟩ := heap_setCells_at cs 0 w cur h
  rw [h1]
  have : cs' = cs.toArray := by
    apply Array.ext_getElem?
    intro j
    by_cases hj : j < cs.length
    · have h3 := World.cell?_setCells_in b cs 0 w (fun i hi => by rw [Nat.zero_add, cell_of_row _ _ _ _ _ _ h, Array.getElem?_eq_getElem (by omega)]; rfl) j hj
      rw [Nat.zero_add, cell_of_row _ _ _ _ _ _ h1] at h3
      rw [h3]
      simp [hj]
    · rw [Array.getElem?_eq_none (by omega), Array.getElem?_eq_none (by simpa using hj)]
  rw [this]

set_option maxRecDepth 20000 in
set_option maxHeartbeats 1000000 in
theorem vcReset (b now : Nat) (s : Nat → vcLn) (v : Value) (l : List vcIt) (w : World) (h : VcAt w b s now v l) :
    Calls Try.prog 21 #[.pointer (some ⟨b, 0, none⟩)] w fun e w' => e = .returned (.int .i64 0) ∧ VcAt w' b vc0 0 (.slice none 0 0) [] ∧ Frm b v (.slice none 0 0) w w' := by
  go_enter Try.func21, Try.ntmps21
  go_wp2_with fail
  refine (vcNone b now s v l _ h.row).mono ?_
  rintro e w' ⟨rfl, rfl⟩
  go_wp2_with fail
  refine (vcNew _).mono ?_
  rintro e w1 ⟨rfl, hb1, h1⟩
  have h2 := h.below hb1
  have hr : w1.rangeAt w.heap.size 0 (vcBlk vc0 0 (.slice none 0 0)).toList := fun j u hj => by
    rw [Nat.zero_add, cell_of_row _ _ _ _ _ _ h1.row.1]
    rw [← hj, Array.getElem?_toList]
  have hsz : (Try.prog.info? 59).map (·.size) = some (vcBlk vc0 0 (.slice none 0 0)).toList.length := by kernel_rfl
  have hone : (vcBlk vc0 0 (.slice none 0 0)).toList.toArray.all (·.oneCell') = true := by kernel_rfl
  have hth : w1.there b 0 (vcBlk vc0 0 (.slice none 0 0)).toList.toArray.size := fun j hj => by
    have hj2 : j < (vcBlk s now v).size := hj
    rw [Nat.zero_add]
    refine ⟨?_, h2.row.free j⟩
    rw [cell_of_row _ _ _ _ _ _ h2.row.1, Array.getElem?_eq_getElem hj2]
    rfl
  have hall := heap_setCells_all (vcBlk vc0 0 (.slice none 0 0)).toList h2.row.1 rfl
  have hlt := h2.lt
  rw [Array.toArray_toList] at hall
  have hsz2 : (Try.prog.info? 59).map (·.size) = some (vcBlk vc0 0 (.slice none 0 0)).toList.toArray.size := by rw [List.size_toArray]; exact hsz
  have hfu : Upd b w1 (w1.setCells b 0 (vcBlk vc0 0 (.slice none 0 0)).toList) := upd_setCells _ _ _ _ (Upd.refl b w1)
  have HALL := Lib.hid hall
  have HFU := Lib.hid hfu
  clear hall hfu
  generalize hcs : (vcBlk vc0 0 (.slice none 0 0)).toList = cs at hr hsz hone hth HALL HFU hsz2
  clear hcs
  go_wp2_with (first
    | (refine wpList_load_mid rfl 59 (.tmp 7) rfl w.heap.size 0 rfl cs _ hr Try.underlying59 rfl hsz ?_)
    | (refine wpList_store_mid rfl 59 (.tmp 9) (.tmp 8) rfl b 0 cs.toArray rfl rfl hth hsz2 hone ?_))
  go_ret
  refine ⟨rfl, ⟨⟨HALL.out, World.ownsRow_nil _ _ _ _⟩, fun x h0 hx => by simp at hx, List.Perm.refl _⟩, ?_⟩
  have f2 := HFU.out
  exact ⟨f2.os.trans hb1.os, f2.tape.trans hb1.tape, f2.output.trans hb1.output, Nat.le_trans hb1.size f2.size, fun i hi hb _ => (f2.block i (Nat.lt_of_lt_of_le hi hb1.size) (by rintro ⟨⟩; exact hb rfl)).trans (hb1.block i hi), .inr fun g hg => by cases hg⟩
end Go.Proofs.Ytddngfhiaolkeaa
