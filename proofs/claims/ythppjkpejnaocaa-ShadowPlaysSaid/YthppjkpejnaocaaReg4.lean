/- Own laws over any program: in a drawn region, a store of a whole struct or row that alone may come up. -/
import Derived.Test.YthppjkpejnaocaaReg3
import Derived.Deep.MidRow
namespace Go.Proofs.Ythppjkpejnaocaa
set_option linter.unusedVariables false

section
variable {P : Program} {ops : Array Oper} {Q : Exit → Act → World → Prop} {md : Region.Mode} {S : World → Prop}

theorem wpStoreMid (i fuel : Nat) (ty : TypeId) (x y : Operand) (b o : Nat) (cells : Array Value) {n : Nat} {listed : Array Bool} {a : Act} {w : World} (hn : n = fuel + 1) (ho : (ops[i]?).map (fun o => (o.dst, o.op, o.guard)) = some (none, .store ty x y, none)) (hr : Region.ready md ops listed = [i])
    (hx : a.eval x = .pointer (some ⟨b, o, none⟩)) (hy : a.eval y = .agg cells)
    (hi : (P.info? ty).map (·.size) = some cells.size) (h1 : cells.all (·.oneCell') = true) (ht : w.there b o cells.size) (hS : S (w.setCells b o cells.toList))
    (h : wpAnyH P md ops Q S fuel (listed.setIfInBounds i true) a (w.setCells b o cells.toList)) : wpAnyH P md ops Q S n listed a w := by
  obtain ⟨op, ho', h2⟩ := Option.map_eq_some_iff.1 ho
  simp only [Prod.mk.injEq] at h2
  obtain ⟨hd, hop, hg⟩ := h2
  have hw : Region.wanted op (yielded ops a.tmps) = true := by simp [Region.wanted, hg]
  refine wpOne i fuel hn ho' hr fun K hK => ?_
  rw [if_pos hw]
  refine wp_store_mid ty x y hop b o cells hx hy ht hi h1 ?_
  rw [hd]
  exact hK.out S _ _ (fun _ h => h) hS h

end
end Go.Proofs.Ythppjkpejnaocaa
