/- The symbolic executor: calls without arguments, carried out by the kernel. -/
import Derived.Test.YtkjhpaeminegoaaEng11

namespace Go.Eng

def endsTrue (T : Tab) (rs : List ResultVar) (p : List It × St × List Nat) : Bool :=
  match p with
  | (.res _ :: _, s, _) => match resL T s rs with
    | some [.bool (.lit true)] => true
    | _ => false
  | ([], s, _) => match resL T s rs with
    | some [.bool (.lit true)] => true
    | _ => false
  | _ => false

/-- a call that answers true, whatever the memory: carried out by the kernel -/
theorem runA {P : Program} {F : FT} (hF : FTok P F) {g : Nat} {fi : FI} (hg : FOk P g fi) (m : Nat) (u : Bool) (ss : List SV) {args : Array Value} (ha : SV.denL [] ss = some args.toList) (hle : Nat.ble args.size fi.n = true)
    (h : endsTrue fi.T fi.rs (runC F u m fi.T fi.B fi.n fi.rs [] [.code fi.body] ⟨argFr ss 0, []⟩) = true) (w : World) :
    Calls P g args w fun e w' => e = .returned (.bool true) ∧ Chg (fun _ _ => False) w w' := by
  obtain ⟨⟨fn, cd, k1, k2, k3, k4, k5, k6⟩, htab, hcall⟩ := hg
  let R : Ending → World → Prop := fun e w' => e = .returned (.bool true) ∧ Chg (fun _ _ => False) w w'
  let E : Ctx := std P fn R w [] [] fi.B
  refine X.enter (P := P) (R := R) E k1 k2 rfl rfl rfl k6 (by rw [← k4]; exact Nat.le_of_ble_eq_true hle) (ss := ss) (rg := []) ha Sat.std0 ?_
  have hrun : ∃ t s ws, runC F u m fi.T fi.B fi.n fi.rs [] [.code fi.body] ⟨argFr ss 0, []⟩ = (t, s, ws) := ⟨_, _, _, rfl⟩
  obtain ⟨t, s, ws, hr⟩ := hrun
  rw [hr] at h
  rw [k3] at hr
  refine (runC_ok hF u m fi.T fi.B fi.n fi.rs [] _ _ _ _ _ hr).2 E rfl k4.symm rfl htab (fun _ _ d _ _ h => by cases d <;> exact h) ?_
  have fin : ∀ (s : St) (N : Nums) (a : Act) (w' : World), (match resL fi.T s fi.rs with | some [.bool (.lit true)] => true | _ => false) = true → FrOk E.n N s.fr a → Sat E.toEnv N s.rg w' → bodyPost P fn R .ret a w' := by
    intro s N a w' hres hf hS
    split at hres
    · rename_i hl
      rw [k5] at hl
      obtain ⟨v, q1, q2⟩ := results_run (E := E.toEnv) rfl htab hf hS hl
      refine ⟨hf.defers, v, q2, ?_, hS.chg.none⟩
      simp only [resV, SV.den, SB.den, Option.some.injEq] at q1
      rw [← q1]
    · cases hres
  unfold endsTrue at h
  split at h
  · intro N a w' hN hf hS
    rename_i r k s0 ws0 he
    cases he
    exact sem_ret _ (fin _ N a w' h hf hS)
  · intro N a w' hN hf hS
    rename_i s0 ws0 he
    cases he
    exact fin _ N a w' h hf hS
  · cases h

/-- .. without arguments -/
theorem run0 {P : Program} {F : FT} (hF : FTok P F) {g : Nat} {fi : FI} (hg : FOk P g fi) (m : Nat) (h : endsTrue fi.T fi.rs (runC F true m fi.T fi.B fi.n fi.rs [] [.code fi.body] ⟨[], []⟩) = true) (w : World) :
    Calls P g #[] w fun e w' => e = .returned (.bool true) ∧ Chg (fun _ _ => False) w w' := runA hF hg m true [] rfl rfl h w

/-- the results at a run's end -/
def runEnds (T : Tab) (rs : List ResultVar) (p : List It × St × List Nat) : Option (List SV) :=
  match p with
  | (.res _ :: _, s, _) => resL T s rs
  | ([], s, _) => resL T s rs
  | _ => none

/-- a call whose results the kernel finds -/
theorem runR {P : Program} {F : FT} (hF : FTok P F) {g : Nat} {fi : FI} (hg : FOk P g fi) (m : Nat) (u : Bool) (ss : List SV) {args : Array Value} (ha : SV.denL [] ss = some args.toList) (hle : Nat.ble args.size fi.n = true) {l : List SV}
    (h : runEnds fi.T fi.rs (runC F u m fi.T fi.B fi.n fi.rs [] [.code fi.body] ⟨argFr ss 0, []⟩) = some l) (w : World) :
    Calls P g args w fun e w' => ∃ N v, e = .returned v ∧ (resV l).den N = some v ∧ Chg (fun _ _ => False) w w' := by
  obtain ⟨⟨fn, cd, k1, k2, k3, k4, k5, k6⟩, htab, hcall⟩ := hg
  let R : Ending → World → Prop := fun e w' => ∃ N v, e = .returned v ∧ (resV l).den N = some v ∧ Chg (fun _ _ => False) w w'
  let E : Ctx := std P fn R w [] [] fi.B
  refine X.enter (P := P) (R := R) E k1 k2 rfl rfl rfl k6 (by rw [← k4]; exact Nat.le_of_ble_eq_true hle) (ss := ss) (rg := []) ha Sat.std0 ?_
  have hrun : ∃ t s ws, runC F u m fi.T fi.B fi.n fi.rs [] [.code fi.body] ⟨argFr ss 0, []⟩ = (t, s, ws) := ⟨_, _, _, rfl⟩
  obtain ⟨t, s, ws, hr⟩ := hrun
  rw [hr] at h
  rw [k3] at hr
  refine (runC_ok hF u m fi.T fi.B fi.n fi.rs [] _ _ _ _ _ hr).2 E rfl k4.symm rfl htab (fun _ _ d _ _ h => by cases d <;> exact h) ?_
  have fin : ∀ (s : St) (N : Nums) (a : Act) (w' : World), resL fi.T s fi.rs = some l → FrOk E.n N s.fr a → Sat E.toEnv N s.rg w' → bodyPost P fn R .ret a w' := by
    intro s N a w' hl hf hS
    rw [k5] at hl
    obtain ⟨v, q1, q2⟩ := results_run (E := E.toEnv) rfl htab hf hS hl
    exact ⟨hf.defers, v, q2, N, v, rfl, q1, hS.chg.none⟩
  unfold runEnds at h
  split at h
  · intro N a w' hN hf hS
    rename_i r k s0 ws0 he
    cases he
    exact sem_ret _ (fin _ N a w' h hf hS)
  · intro N a w' hN hf hS
    rename_i s0 ws0 he
    cases he
    exact fin _ N a w' h hf hS
  · cases h

end Go.Eng
