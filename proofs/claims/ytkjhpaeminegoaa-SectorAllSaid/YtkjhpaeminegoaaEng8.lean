/- The symbolic executor, part 8: the rules at which a walk is steered: enter, return, a test, a call, a load from elsewhere, a loop. -/
import Derived.Test.YtkjhpaeminegoaaEng7

namespace Go.Eng

/-! ### enter, return, test -/
def argFr : List SV → Nat → Fr
  | [], _ => []
  | s :: r, i => (i, .val s) :: argFr r (i + 1)

theorem look_argFr : ∀ (ss : List SV) (i t : Nat), look (argFr ss i) t = if i ≤ t then (match ss[t - i]? with | some s => .val s | none => .dead) else .dead
  | [], i, t => by simp [argFr, look]
  | s :: r, i, t => by
    simp only [argFr, look]
    by_cases h : i = t
    · subst h; simp
    · simp only [beq_ne h, cond_false]
      rw [look_argFr r (i + 1) t]
      by_cases hle : i + 1 ≤ t
      · rw [if_pos hle, if_pos (by omega)]
        rw [show t - i = (t - (i + 1)) + 1 by omega]
        simp
      · rw [if_neg hle, if_neg (by omega)]

theorem X.enter {P : Program} {f : FuncId} {fn : Func} {c : Code} {args : Array Value} {w : World} {R : Ending → World → Prop} (E : Ctx) (hf : P.funcs[f]? = some fn) (hb : fn.body = some c)
    (hP : E.P = P) (hQ : E.Q = bodyPost P fn R) (hn : E.n = fn.ntmps) (hreg : regsB E.B c = true) (hle : args.size ≤ fn.ntmps) {ss : List SV} {rg : List Rg} (ha : SV.denL E.N0 ss = some args.toList) (hS : Sat E.toEnv E.N0 rg w)
    (h : X E [.code c] ⟨argFr ss 0, rg⟩) : Calls P f args w R := by
  subst hP
  refine calls_of_wp hf hb ?_
  rw [← hQ]
  refine h E.N0 _ w (Nums.le.refl _) ⟨?_, rfl, fun t => ?_⟩ hS hreg
  · simp [hn]; omega
  · rw [look_argFr]
    simp only [Nat.zero_le, if_true, Nat.sub_zero]
    cases hs : ss[t]? with
    | none => trivial
    | some s =>
      obtain ⟨h1, h2⟩ := SV.denL_get _ ha
      obtain ⟨v, hv, hl⟩ := h2 t s hs
      refine ⟨v, hv, ?_⟩
      have : t < args.size := by have := (List.getElem?_eq_some_iff.1 hl).1; simpa using this
      rw [Array.getElem?_append_left this]
      simpa using hl

theorem sem_ret {P : Program} {B : SchT} {Q : Exit → Act → World → Prop} {a : Act} {w : World} : ∀ k, Q .ret a w → sem P B k Q .ret a w
  | [], h => h
  | .code _ :: k, h => sem_ret k h
  | .blk _ :: k, h => sem_ret k h
  | .ops _ _ :: k, h => sem_ret k h
  | .lp _ :: k, h => sem_ret k h
  | .res _ :: k, h => sem_ret k h
  | .inl _ :: k, h => sem_ret k h

def resV (l : List SV) : SV :=
  match l with
  | [v] => v
  | l => .tup l

/-- one result -/
def resOne (tmps : Array Value) : ResultVar → Sem Value
  | .tmp t => pure (tmps.getD t undef)
  | .cell x t => do loadVar t (← asAddr (tmps.getD x undef))

theorem results_eq (fn : Func) (tmps : Array Value) : results fn tmps = (do let vs ← fn.results.mapM (resOne tmps); pure (if h : vs.size = 1 then vs[0] else .tuple vs)) := rfl

theorem run_one {P : Program} {w : World} {T : Tab} {E : Env} {N : Nums} {s : St} {a : Act} {n : Nat} (hE : E.P = P) (hT : TabOk P T) (hf : FrOk n N s.fr a) (hS : Sat E N s.rg w) : ∀ (rs : List ResultVar) {l : List SV}, resL T s rs = some l →
    ∃ vs, SV.denL N l = some vs ∧ (rs.mapM (resOne a.tmps)).run P w = .ok vs w
  | [], l, h => by simp only [resL, Option.some.injEq] at h; subst h; exact ⟨[], rfl, by simp⟩
  | .tmp t :: r, l, h => by
    simp only [resL] at h
    split at h
    · rename_i v q hv hq
      simp only [Option.some.injEq] at h; subst h
      obtain ⟨vs, h1, h2⟩ := run_one hE hT hf hS r hq
      have := ev_sound hf hv
      exact ⟨a.eval (.tmp t) :: vs, by simp [SV.denL, this, h1], by simp [List.mapM_cons, resOne, h2, Act.eval, Result.andThen]⟩
    · cases h
  | .cell x t :: r, l, h => by
    simp only [resL] at h
    split at h
    · rename_i y hy
      split at h
      · rename_i v q hv hq
        simp only [Option.some.injEq] at h; subst h
        obtain ⟨vs, h1, h2⟩ := run_one hE hT hf hS r hq
        have hy' := ev_sound hf hy
        subst hE
        obtain ⟨u, k1, k2⟩ := loadV_sound hT.ok hS.vis hy' hv
        -- what is loaded lies at an address
        have : ∃ p, a.eval (.tmp x) = .pointer (some p) := by
          cases y <;> simp only [loadV] at hv <;> try (simp at hv; done)
          rename_i r0 c0
          simp only [SV.den] at hy'
          split at hy'
          · simp only [Option.some.injEq] at hy'; exact ⟨_, hy'.symm⟩
          · cases hy'
        obtain ⟨p, hp⟩ := this
        rw [hp] at k2
        refine ⟨u :: vs, by simp [SV.denL, k1, h1], ?_⟩
        have k3 : (loadVar t p).run E.P w = .ok u w := by simpa [Instr.loadAt, Instr.sureAddr] using k2
        have hp' : a.tmps.getD x undef = .pointer (some p) := hp
        simp only [List.mapM_cons, resOne, Sem.run_bind, hp', asAddr, Sem.run_pure, Result.andThen, k3, h2]
      · cases h
    · cases h

theorem results_run {P : Program} {w : World} {T : Tab} {E : Env} {N : Nums} {s : St} {a : Act} {n : Nat} (hE : E.P = P) (hT : TabOk P T) (hf : FrOk n N s.fr a) (hS : Sat E N s.rg w) {fn : Func} {l : List SV} (h : resL T s fn.results.toList = some l) :
    ∃ v, (resV l).den N = some v ∧ (results fn a.tmps).run P w = .ok v w := by
  obtain ⟨vs, h1, h2⟩ := run_one hE hT hf hS _ h
  have h3 : (results fn a.tmps).run P w = .ok (if h : vs.toArray.size = 1 then vs.toArray[0] else .tuple vs.toArray) w := by
    rw [results_eq, Sem.run_bind, Array.mapM_eq_mapM_toList, Sem.run_map, h2]
    rfl
  refine ⟨_, ?_, h3⟩
  obtain ⟨k1, _⟩ := SV.denL_get _ h1
  match l, vs, k1, h1 with
  | [], [], _, h1 => simp [resV, SV.den, SV.denL]
  | [x], [y], _, h1 =>
    simp only [SV.denL] at h1
    cases hx : x.den N with
    | none => simp [hx] at h1
    | some z => simp [hx] at h1; subst h1; simp [resV, hx]
  | x :: x' :: l, y :: y' :: vs, _, h1 => simp [resV, SV.den, h1]

section
variable {E : Ctx} {T : Tab}

/-- the walk is at its end -/
theorem X.fin (hT : TabOk E.P T) {fn : Func} {R : Ending → World → Prop} (hQ : E.Q = bodyPost E.P fn R) {s : St} {l : List SV} (hr : resL T s fn.results.toList = some l)
    (h : ∀ (N : Nums) (w : World) (v : Value), E.N0.le N → Sat E.toEnv N s.rg w → (resV l).den N = some v → R (.returned v) w) : X E [] s := by
  intro N a w hN hf hS
  obtain ⟨v, h1, h2⟩ := results_run rfl hT hf hS hr
  show E.Q .normal a w
  rw [hQ]
  exact ⟨hf.defers, v, h2, h N w v hN hS h1⟩

theorem X.ret (hT : TabOk E.P T) {fn : Func} {R : Ending → World → Prop} (hQ : E.Q = bodyPost E.P fn R) {k : List It} {s : St} {l : List SV} (hr : resL T s fn.results.toList = some l)
    (h : ∀ (N : Nums) (w : World) (v : Value), E.N0.le N → Sat E.toEnv N s.rg w → (resV l).den N = some v → R (.returned v) w) : X E (.res l :: k) s := by
  intro N a w hN hf hS
  obtain ⟨v, h1, h2⟩ := results_run rfl hT hf hS hr
  refine sem_ret k ?_
  rw [hQ]
  exact ⟨hf.defers, v, h2, h N w v hN hS h1⟩

/-- a test that is not decided -/
theorem X.cond {c : Operand} {x y : Code} {k : List It} {s : St} {b : SB} (hc : ev s.fr c = some (.bool b)) (ht : b.T → X E (.code x :: k) s) (hf : b.F → X E (.code y :: k) s) :
    X E (.code (.cond c x y) :: k) s := by
  intro N a w hN hfr hS
  have := ev_sound hfr hc
  simp only [SV.den, Option.some.injEq] at this
  show _ → Code.wp _ _ _ _ _
  intro hreg
  simp only [regsB, Bool.and_eq_true] at hreg
  refine wp_cond (t := b.den) this.symm ?_
  cases hb : b.den with
  | true => exact ht (b.TF.1.1 hb) N a w hN hfr hS hreg.1
  | false => exact hf (b.TF.2.1 hb) N a w hN hfr hS hreg.2

/-- an operation, by hand: whatever it does -/
theorem X.oper {all : Array Oper} {i : Nat} {rest : List Nat} {k : List It} {s : St} {o : Oper} (ho : nth all.toList i = some o) (hg : o.guard = none)
    (h : ∀ (N : Nums) (a : Act) (w : World), E.N0.le N → FrOk E.n N s.fr a → Sat E.toEnv N s.rg w → o.wp E.P a w (fun a' w' => sem E.P E.B (.ops all rest :: k) E.Q .normal a' w') (sem E.P E.B k E.Q)) :
    X E (.ops all (i :: rest) :: k) s := by
  intro N a w hN hfr hS
  show wpOps _ _ _ _ _ _
  have ho' : all[i]? = some o := by rw [nth_eq] at ho; simpa using ho
  simp only [wpOps, ho', Region.wanted, hg, if_true]
  exact .inl (h N a w hN hfr hS)

/-- an operation that yields a value, and leaves the world as it is (a load from elsewhere, ..) -/
theorem X.value {all : Array Oper} {i : Nat} {rest : List Nat} {k : List It} {s : St} {o : Oper} (ho : nth all.toList i = some o) (hg : o.guard = none) (r : SV) {f : Fr} (hp : putO E.n s.fr o.dst (.val r) = some f)
    (h : ∀ (N : Nums) (a : Act) (w : World), E.N0.le N → FrOk E.n N s.fr a → Sat E.toEnv N s.rg w → ∃ x, r.den N = some x ∧ (execOp a.eval o).run E.P w = .ok (.value x) w)
    (hk : X E (.ops all rest :: k) ⟨f, s.rg⟩) : X E (.ops all (i :: rest) :: k) s := by
  refine X.oper ho hg fun N a w hN hfr hS => ?_
  obtain ⟨x, h1, h2⟩ := h N a w hN hfr hS
  unfold Oper.wp
  rw [h2]
  exact hk N _ w hN (putO_sound hfr h1 hp) hS

def evL (f : Fr) : List Operand → Option (List SV)
  | [] => some []
  | x :: r => match ev f x, evL f r with
    | some v, some l => some (v :: l)
    | _, _ => none

theorem evL_sound {n : Nat} {N : Nums} {f : Fr} {a : Act} (h : FrOk n N f a) : ∀ (xs : List Operand) {l : List SV}, evL f xs = some l → SV.denL N l = some (xs.map a.eval)
  | [], l, hl => by simp only [evL, Option.some.injEq] at hl; subst hl; rfl
  | x :: xs, l, hl => by
    simp only [evL] at hl
    split at hl
    · rename_i v q hv hq
      simp only [Option.some.injEq] at hl; subst hl
      simp [SV.denL, ev_sound h hv, evL_sound h xs hq]
    · cases hl

/-- what is owed behind a call -/
def Goes (E : Ctx) (N : Nums) (k : List It) (f : Fr) (d : Option Nat) (v : Value) (w' : World) : Prop :=
  ∃ (E' : Ctx) (N' : Nums) (r : SV) (rg' : List Rg) (f' : Fr), E'.P = E.P ∧ E'.n = E.n ∧ E'.Q = E.Q ∧ E'.B = E.B ∧ N.le N' ∧ E'.N0.le N' ∧ Sat E'.toEnv N' rg' w' ∧ r.den N' = some v ∧ putO E.n f d (.val r) = some f' ∧ X E' k ⟨f', rg'⟩

/-- a call of a function -/
theorem X.call {all : Array Oper} {i : Nat} {rest : List Nat} {k : List It} {s : St} {o : Oper} {g : FuncId} {xs : Array Operand} {ts : Array TypeId} {l : List SV} (ho : nth all.toList i = some o) (hg : o.guard = none)
    (hop : o.op = .call { callee := .value (.func g), args := xs, argTypes := ts }) (hl : evL s.fr xs.toList = some l) (hb : ∀ args w, (callFunc g args).run E.P w = .ok (.enter g args) w)
    (h : ∀ (N : Nums) (w : World) (args : List Value), E.N0.le N → Sat E.toEnv N s.rg w → SV.denL N l = some args →
      Calls E.P g args.toArray w fun e w' => ∃ v, e = .returned v ∧ Goes E N (.ops all rest :: k) s.fr o.dst v w') : X E (.ops all (i :: rest) :: k) s := by
  refine X.oper ho hg fun N a w hN hfr hS => ?_
  have hargs := evL_sound hfr _ hl
  have hc := h N w _ hN hS hargs
  have hrun : (execOp a.eval o).run E.P w = .ok (.enter g (xs.toList.map a.eval).toArray) w := by
    simp only [execOp, hop, resolve, Act.eval, Deferred.ofValue, Sem.run_bind, Sem.run_pure, Result.andThen, invoke]
    rw [hb]
    congr 2
    apply Array.ext'
    simp
  unfold Oper.wp
  rw [hrun]
  refine Calls.mono hc fun e w' ⟨v, he, E', N', r, rg', f', h1, h2, h3, hB, h4, h5, h6, h7, h8, h9⟩ => ?_
  subst he
  have := h9 N' (a.put o.dst v) w' h5 (by rw [h2]; exact putO_sound (hfr.mono h4) h7 h8) h6
  rw [h1, h3, hB] at this
  exact this

/-- behind a loop's round -/
theorem X.back {q : Act → World → Prop} {k : List It} {s : St} (h : ∀ (N : Nums) (a : Act) (w : World), E.N0.le N → FrOk E.n N s.fr a → Sat E.toEnv N s.rg w → q a w) : X E (.lp q :: k) s := h

theorem least (p : Nat → Prop) (h : ∃ n, p n) : ∃ n, p n ∧ ∀ m, p m → n ≤ m := by
  obtain ⟨n, hn⟩ := h
  induction n using Nat.strongRecOn with
  | _ n ih =>
    by_cases hm : ∃ m, m < n ∧ p m
    · obtain ⟨m, h1, h2⟩ := hm; exact ih m h1 h2
    · exact ⟨n, hn, fun m h => Nat.le_of_not_lt fun hlt => hm ⟨m, hlt, h⟩⟩

/-- a loop with a ghost -/
theorem wp_loop_ghost {P : Program} {Q : Exit → Act → World → Prop} {a : Act} {w : World} {c : Code} {ι : Type} (I : ι → Act → World → Prop) (μ : ι → Nat) (i0 : ι) (h0 : I i0 a w)
    (round : ∀ i a w, I i a w → c.wp P (Exit.then (fun a' w' => ∃ i', μ i' < μ i ∧ I i' a' w') Q) a w) : (Code.loop c).wp P Q a w := by
  classical
  refine wp_loop (fun a w => ∃ i, I i a w) (fun a w => if h : ∃ n, ∃ i, I i a w ∧ μ i = n then Classical.choose (least _ h) else 0) ⟨i0, h0⟩ fun a w ⟨i, hi⟩ => ?_
  have hex : ∃ n, ∃ i, I i a w ∧ μ i = n := ⟨_, i, hi, rfl⟩
  obtain ⟨⟨j, hj, hμ⟩, _⟩ := Classical.choose_spec (least _ hex)
  refine wp_mono (round j a w hj) fun e a' w' hq => ?_
  cases e <;> simp only [Exit.then] at hq ⊢ <;> try exact hq
  obtain ⟨i', hlt, hi'⟩ := hq
  refine ⟨⟨i', hi'⟩, ?_⟩
  have hex' : ∃ n, ∃ i, I i a' w' ∧ μ i = n := ⟨_, i', hi', rfl⟩
  rw [dif_pos hex', dif_pos hex]
  rw [← hμ]
  exact Nat.lt_of_le_of_lt ((Classical.choose_spec (least _ hex')).2 _ ⟨i', hi', rfl⟩) hlt

/-- at a loop's head, in round i -/
def At (E : Ctx) (s : St) (a : Act) (w : World) : Prop := ∃ N, E.N0.le N ∧ FrOk E.n N s.fr a ∧ Sat E.toEnv N s.rg w

theorem X.loop {ι : Type} (En : ι → Ctx) (S : ι → St) (μ : ι → Nat) {c : Code} {k : List It} {s : St} (hE : ∀ i, (En i).P = E.P ∧ (En i).n = E.n ∧ (En i).Q = E.Q ∧ (En i).B = E.B)
    (h0 : ∀ (N : Nums) (a : Act) (w : World), E.N0.le N → FrOk E.n N s.fr a → Sat E.toEnv N s.rg w → ∃ i, At (En i) (S i) a w)
    (round : ∀ i (q : Act → World → Prop), (∀ i' a w, μ i' < μ i → At (En i') (S i') a w → q a w) → X (En i) (.code c :: .lp q :: k) (S i)) : X E (.code (.loop c) :: k) s := by
  intro N a w hN hfr hS
  show _ → Code.wp _ _ _ _ _
  intro hreg
  obtain ⟨i0, h0⟩ := h0 N a w hN hfr hS
  refine wp_loop_ghost (fun i a w => At (En i) (S i) a w) μ i0 h0 fun i a w ⟨N', h1, h2, h3⟩ => ?_
  have := round i (fun a' w' => ∃ i', μ i' < μ i ∧ At (En i') (S i') a' w') (fun i' a w hlt h => ⟨i', hlt, h⟩) N' a w h1 h2 h3
  obtain ⟨e1, e2, e3, e4⟩ := hE i
  rw [e1, e3, e4] at this
  exact this hreg

end

/-! ### from one state to another that says less -/
def SV.bd (m : Nat) : SV → Bool
  | .own r _ => Nat.blt r m
  | .agg cs => SV.bdL m cs
  | .tup cs => SV.bdL m cs
  | _ => true
where SV.bdL (m : Nat) : List SV → Bool
  | [] => true
  | c :: cs => c.bd m && SV.bdL m cs

end Go.Eng
