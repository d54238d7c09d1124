/- The ring's laws: calls under a guard; strings; sameness; awake. -/
import Derived.Test.YthaffebapmkppaaRi9
import Derived.Laws.BytesArg
import Derived.Lib.Bytes

namespace Go.Proofs.Ythaffebapmkppaa
open Go Go.Eng Go.Sort

section
variable {E : Ctx}
theorem X.callG {all : Array Oper} {i : Nat} {rest : List Nat} {k : List It} {s : St} {o : Oper} {g : FuncId} {xs : Array Operand} {ts : Array TypeId} {l : List SV} (ho : nth all.toList i = some o) (hgd : gdOf all s.fr o = some .yes)
    (hop : o.op = .call { callee := .value (.func g), args := xs, argTypes := ts }) (hl : evL s.fr xs.toList = some l) (hb : ∀ args w, (callFunc g args).run E.P w = .ok (.enter g args) w)
    (h : ∀ (N : Nums) (w : World) (args : List Value), E.N0.le N → Sat E.toEnv N s.rg w → SV.denL N l = some args →
      Calls E.P g args.toArray w fun e w' => ∃ v, e = .returned v ∧ Goes E N (.ops all rest :: k) s.fr o.dst v w') : X E (.ops all (i :: rest) :: k) s := by
  intro N a w hN hfr hS
  show wpOps _ _ _ _ _ _
  have ho' : all[i]? = some o := by rw [nth_eq] at ho; simpa using ho
  have hw : Region.wanted o (yielded all a.tmps) = true := gdOf_sound hfr hgd
  simp only [wpOps, ho', hw, if_true]
  refine .inl ?_
  have hargs := evL_sound hfr _ hl
  have hc := h N w _ hN hS hargs
  have hrun : (execOp a.eval o).run E.P w = .ok (.enter g (xs.toList.map a.eval).toArray) w := by
    simp only [execOp, hop, resolve, Act.eval, Deferred.ofValue, Sem.run_bind, Sem.run_pure, Result.andThen, invoke]
    rw [hb]
    congr 2
    apply Array.ext'
    simp
  unfold Oper.wp
  rw [hrun]
  refine Calls.mono hc fun e w' ⟨v, he, E', N', r, rg', f', h1, h2, h3, hB, h4, h5, h6, h7, h8, h9⟩ => ?_
  subst he
  have := h9 N' (a.put o.dst v) w' h5 (by rw [h2]; exact putO_sound (hfr.mono h4) h7 h8) h6
  rw [h1, h3, hB] at this
  exact this
end

end Go.Proofs.Ythaffebapmkppaa
