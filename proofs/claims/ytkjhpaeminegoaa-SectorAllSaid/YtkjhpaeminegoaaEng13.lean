/- The symbolic executor, part 13: in regions that draw their order, calls by a summary. -/
import Derived.Test.YtkjhpaeminegoaaEng12

namespace Go.Eng

/-- what is owed behind a region that draws its order -/
def XD (E : Ctx) (k : List It) : Option (St × List Nat) → Prop
  | some (s', _) => X E k s'
  | none => False

/-- a region that draws its order, with a caller of one's own -/
theorem X.drawn {P : Program} {fn : Func} {R : Ending → World → Prop} {W : World} {O : Nat → Nat → Prop} {im : Nat → Nat → Option Value} {D : Nat → Nat → Prop} {Rr : World → Prop} {N : Nums} {B : SchT} {T : Tab} (hT : TabOk P T) {id : Nat} {ops : Array Oper} {k : List It} {s : St} (call : Caller) {sch : Sch}
    (hl : lookS B id = some sch) (hc : CallerOk P fn.ntmps ops call) (n : Nat) (hn : fn.ntmps = n) (h : XD (mkE P fn R W O im D Rr N B) k (drawnS T n ops call sch s)) : X (mkE P fn R W O im D Rr N B) (.code (.region id ops true) :: k) s := by
  subst hn
  cases hd : drawnS T fn.ntmps ops call sch s with
  | none => rw [hd] at h; exact h.elim
  | some p =>
    obtain ⟨s', ws⟩ := p
    rw [hd] at h
    intro N' a w hN hf hS
    show _ → Code.wp _ _ _ _ _
    intro hreg
    simp only [regsB, hl] at hreg
    exact drawnS_sound (E := (mkE P fn R W O im D Rr N B).toEnv) hT hc hreg hd (PanicOk.sem (fun _ _ d _ _ h => by cases d <;> exact h) k) hf hS (fun N2 a2 w2 hN2 hf2 hS2 => h N2 a2 w2 (hN.trans hN2) hf2 hS2)

/-- the caller that calls function g by its summary: it writes nothing that was there -/
def callSum (g : Nat) (sum : List SV → Option SV) (n : Nat) (all : Array Oper) : Caller := fun i s =>
  match nth all.toList i with
  | none => none
  | some o => bif sure all s.fr o then
      match o.op with
      | .call c => match c.callee with
        | .value (.func g') => bif Nat.beq g' g then
            match evL s.fr c.args.toList with
            | some l => match sum l with
              | some r => match putO n s.fr o.dst (.val r) with
                | some f => some (⟨f, s.rg⟩, [])
                | none => none
              | none => none
            | none => none
          else none
        | _ => none
      | _ => none
    else none

/-- a summary is right -/
def SumOk (P : Program) (g : Nat) (sum : List SV → Option SV) : Prop :=
  (∀ args w, (callFunc g args).run P w = .ok (.enter g args) w) ∧
  ∀ (N : Nums) (l : List SV) (r : SV) (args : List Value) (w : World), sum l = some r → SV.denL N l = some args → Calls P g args.toArray w fun e w' => ∃ v, e = .returned v ∧ r.den N = some v ∧ Chg (fun _ _ => False) w w'

theorem callSum_ok {P : Program} {g : Nat} {sum : List SV → Option SV} (h : SumOk P g sum) (n : Nat) (all : Array Oper) : CallerOk P n all (callSum g sum n all) := by
  intro i s s' ws hc
  unfold callSum at hc
  split at hc
  · cases hc
  · rename_i o ho
    rw [nth_eq] at ho
    have hb := bif_none hc
    clear hc
    obtain ⟨hsu, hc⟩ := hb
    split at hc
    · rename_i c hop
      split at hc
      · rename_i g' hcal
        have hb := bif_none hc
        clear hc
        obtain ⟨hg, hc⟩ := hb
        have hg := Nat.eq_of_beq_eq_true hg
        subst hg
        split at hc
        · rename_i l hl
          split at hc
          · rename_i r hr
            split at hc
            · rename_i f hp
              simp only [Option.some.injEq, Prod.mk.injEq] at hc
              obtain ⟨rfl, rfl⟩ := hc
              refine ⟨Keeps.refl _ _, o, by simpa using ho, fun E N a w hP hn hf hS => ⟨sure_sound hf hsu, fun K Q hK => ?_⟩⟩
              subst hP; subst hn
              have hargs := evL_sound hf _ hl
              have hexec : (execOp a.eval o).run E.P w = .ok (.enter g' (c.args.toList.map a.eval).toArray) w := by
                obtain ⟨callee, args, argTypes⟩ := c
                simp only at hcal
                try simp only at hl
                subst hcal
                simp only [execOp, hop, resolve, Act.eval, Deferred.ofValue, Sem.run_bind, Sem.run_pure, Result.andThen, invoke]
                rw [h.1]
                congr 2
                apply Array.ext'
                simp
              unfold Oper.wp
              rw [hexec]
              show Calls _ _ _ _ _
              refine Calls.mono (h.2 N l r _ w hr hargs) fun e w' ⟨v, hv, hd, hch⟩ => ?_
              subst hv
              exact hK N v w' (Nums.le.refl N) (putO_sound hf hd hp) (hS.after0 hch)
            · cases hc
          · cases hc
        · cases hc
      · cases hc
    · cases hc

end Go.Eng
