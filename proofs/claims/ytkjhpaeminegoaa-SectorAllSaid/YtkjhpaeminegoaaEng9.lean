/- The symbolic executor, part 9: the usual environment. -/
import Derived.Test.YtkjhpaeminegoaaEng8

namespace Go.Eng

/-- the place lies in a region of one's own -/
def InR (N : Nums) (rg : List Rg) (k o : Nat) : Prop :=
  ∃ (r : Nat) (g : Rg) (p : Num), rg[r]? = some g ∧ N[r]? = some p ∧ g.own = true ∧ k = p.b ∧ p.o ≤ o ∧ o < p.o + p.x

open Classical in
/-- what lies elsewhere -/
noncomputable def elsewhere (N : Nums) (rg : List Rg) (w : World) : Nat → Nat → Option Value :=
  fun k o => if InR N rg k o then none else w.cell? ⟨k, o, none⟩

/-- the environment of a call's body -/
@[reducible] def mkE (P : Program) (fn : Func) (R : Ending → World → Prop) (W : World) (O : Nat → Nat → Prop) (im : Nat → Nat → Option Value) (D : Nat → Nat → Prop) (Rr : World → Prop) (N : Nums) (B : SchT) : Ctx :=
  { P, n := fn.ntmps, Q := bodyPost P fn R, W, O, im, D, R := Rr, N0 := N, B }

@[reducible] noncomputable def std (P : Program) (fn : Func) (R : Ending → World → Prop) (w : World) (N : Nums) (rg : List Rg) (B : SchT) : Ctx :=
  mkE P fn R w (InR N rg) (elsewhere N rg w) (fun _ _ => False) (fun _ => True) N B

theorem Sat.std {P : Program} {fn : Func} {R : Ending → World → Prop} {w : World} {N : Nums} {rg : List Rg} {B : SchT} (len : N.length = rg.length) (lt : ∀ (r : Nat) (p : Num), N[r]? = some p → p.b < w.heap.size)
    (cell : ∀ (r : Nat) (g : Rg) (p : Num), rg[r]? = some g → N[r]? = some p → ∀ (j : Nat) (c : SV), g.cells[j]? = some c → ∃ v, c.den N = some v ∧ w.cell? ⟨p.b, p.o + j, none⟩ = some v)
    (ext : ∀ (r : Nat) (g : Rg) (p : Num), rg[r]? = some g → N[r]? = some p → g.own = true → g.cells.length ≤ p.x)
    (room : ∀ (r : Nat) (g : Rg) (p : Num), rg[r]? = some g → N[r]? = some p → g.own = true → ∀ j, j < p.x → (w.cell? ⟨p.b, p.o + j, none⟩).isSome = true ∧ w.frozen? ⟨p.b, p.o + j, none⟩ = false)
    (disj : ∀ (r r' : Nat) (g g' : Rg) (p p' : Num), rg[r]? = some g → N[r]? = some p → rg[r']? = some g' → N[r']? = some p' → g.own = true → r ≠ r' →
      ∀ j, j < g'.wid p' → p'.b = p.b → p'.o + j < p.o ∨ p.o + p.x ≤ p'.o + j)
    (noob : ∀ (r : Nat) (g : Rg), rg[r]? = some g → g.ob = none) : Sat (Eng.std P fn R w N rg B).toEnv N rg w := by
  refine ⟨len, lt, cell, ext, room, disj, fun r g p ob hg _ ho => ?_, fun r r' g g' p p' hg _ _ _ ho => ?_, fun k o v h => ?_, fun r g p hg hp ho j hj => ?_, fun _ _ _ _ _ _ _ _ h => h, fun _ _ h => h.elim, fun _ _ _ _ _ => trivial, trivial, Chg.refl _ _, fun r g p hg hp ho => .inr fun j hj => ?_⟩
  · rw [noob r g hg] at ho; cases ho
  · rw [noob r g hg] at ho; cases ho
  · simp only [elsewhere] at h
    split at h
    · cases h
    · exact h
  · simp only [elsewhere]
    rw [if_pos ⟨r, g, p, hg, hp, ho, rfl, by omega, by omega⟩]
  · exact ⟨r, g, p, hg, hp, ho, rfl, by omega, by omega⟩

/-- no region -/
theorem Sat.std0 {P : Program} {fn : Func} {R : Ending → World → Prop} {w : World} {B : SchT} : Sat (Eng.std P fn R w [] [] B).toEnv [] [] w :=
  Sat.std rfl (by simp) (by simp) (by simp) (by simp) (by simp) (by simp)

/-- one region -/
theorem Sat.std1 {P : Program} {fn : Func} {R : Ending → World → Prop} {w : World} {B : SchT} {b o : Nat} {cs : List SV} (ow : Bool) (lt : b < w.heap.size)
    (cell : ∀ (j : Nat) (c : SV), cs[j]? = some c → ∃ v, c.den [⟨b, o, cs.length⟩] = some v ∧ w.cell? ⟨b, o + j, none⟩ = some v)
    (free : ow = true → ∀ j, j < cs.length → w.frozen? ⟨b, o + j, none⟩ = false) : Sat (Eng.std P fn R w [⟨b, o, cs.length⟩] [⟨ow, cs, none⟩] B).toEnv [⟨b, o, cs.length⟩] [⟨ow, cs, none⟩] w := by
  have one : ∀ {r : Nat} {g : Rg} {p : Num}, ([⟨ow, cs, none⟩] : List Rg)[r]? = some g → ([⟨b, o, cs.length⟩] : Nums)[r]? = some p → r = 0 ∧ g = ⟨ow, cs, none⟩ ∧ p = ⟨b, o, cs.length⟩ := by
    intro r g p hg hp
    cases r with
    | zero => simp at hg hp; exact ⟨rfl, hg.symm, hp.symm⟩
    | succ r => simp at hg
  refine Sat.std rfl (fun r p hp => ?_) (fun r g p hg hp => ?_) (fun r g p hg hp ho => ?_) (fun r g p hg hp ho => ?_) (fun r r' g g' p p' hg hp hg' hp' _ hne => ?_) (fun r g hg => ?_)
  · cases r with
    | zero => simp at hp; subst hp; exact lt
    | succ r => simp at hp
  · obtain ⟨rfl, rfl, rfl⟩ := one hg hp; exact cell
  · obtain ⟨rfl, rfl, rfl⟩ := one hg hp; exact Nat.le_refl _
  · obtain ⟨rfl, rfl, rfl⟩ := one hg hp
    intro j hj
    obtain ⟨c, hc⟩ : ∃ c, cs[j]? = some c := ⟨_, List.getElem?_eq_getElem hj⟩
    obtain ⟨v, _, hv⟩ := cell j c hc
    exact ⟨by simp only; rw [hv]; rfl, free ho j hj⟩
  · obtain ⟨rfl, _, _⟩ := one hg hp
    obtain ⟨rfl, _, _⟩ := one hg' hp'
    exact absurd rfl hne
  · cases r with
    | zero => simp at hg; subst hg; rfl
    | succ r => simp at hg

/-- what a region that is only read lets turn: nothing -/
theorem Chg.ro1 {w w' : World} {b o x : Nat} {cs : List SV} (h : Chg (InR [⟨b, o, x⟩] [⟨false, cs, none⟩]) w w') : Chg (fun _ _ => False) w w' := h.mono (fun k i _ hn => by
  obtain ⟨r, g, p, hg, hp, ho, _⟩ := hn
  cases r with
  | zero => simp at hg; subst hg; cases ho
  | succ r => simp at hg)

/-- .. and one that is written: its own cells -/
theorem Chg.rw1 {w w' : World} {b o x : Nat} {cs : List SV} (h : Chg (InR [⟨b, o, x⟩] [⟨true, cs, none⟩]) w w') : Chg (fun k i => k = b ∧ o ≤ i ∧ i < o + x) w w' := h.mono (fun k i _ hn => by
  obtain ⟨r, g, p, hg, hp, ho, h1, h2, h3⟩ := hn
  cases r with
  | zero => simp at hg hp; subst hg; subst hp; exact ⟨h1, h2, h3⟩
  | succ r => simp at hg)

def regsO (B : SchT) (o : Option Code) : Bool :=
  match o with
  | some c => regsB B c
  | none => true

theorem X.begin {P : Program} {f : FuncId} {fn : Func} {c : Code} {args : Array Value} {w : World} {R : Ending → World → Prop} {N : Nums} {rg : List Rg} {ss : List SV} (hf : P.funcs[f]? = some fn) (hb : fn.body = some c) {B : SchT} (hreg : regsO B fn.body = true)
    (hle : Nat.ble args.size fn.ntmps = true) (ha : SV.denL N ss = some args.toList) (hS : Sat (std P fn R w N rg B).toEnv N rg w) (h : X (std P fn R w N rg B) [.code c] ⟨argFr ss 0, rg⟩) : Calls P f args w R :=
  X.enter (std P fn R w N rg B) hf hb rfl rfl rfl (by rw [hb] at hreg; exact hreg) (Nat.le_of_ble_eq_true hle) ha hS h

theorem X.done {P : Program} {fn : Func} {R : Ending → World → Prop} {W : World} {O : Nat → Nat → Prop} {im : Nat → Nat → Option Value} {D : Nat → Nat → Prop} {Rr : World → Prop} {N0 : Nums} {B : SchT} {T : Tab} (hT : TabOk P T) {k : List It} {s : St} {l : List SV} (hr : resL T s fn.results.toList = some l)
    (h : ∀ (N : Nums) (w : World) (v : Value), N0.le N → Sat (mkE P fn R W O im D Rr N0 B).toEnv N s.rg w → (resV l).den N = some v → R (.returned v) w) : X (mkE P fn R W O im D Rr N0 B) (.res l :: k) s := X.ret hT rfl hr h

theorem X.over {P : Program} {fn : Func} {R : Ending → World → Prop} {W : World} {O : Nat → Nat → Prop} {im : Nat → Nat → Option Value} {D : Nat → Nat → Prop} {Rr : World → Prop} {N0 : Nums} {B : SchT} {T : Tab} (hT : TabOk P T) {s : St} {l : List SV} (hr : resL T s fn.results.toList = some l)
    (h : ∀ (N : Nums) (w : World) (v : Value), N0.le N → Sat (mkE P fn R W O im D Rr N0 B).toEnv N s.rg w → (resV l).den N = some v → R (.returned v) w) : X (mkE P fn R W O im D Rr N0 B) [] s := X.fin hT rfl hr h

section
variable {E : Ctx} {T : Tab} {all : Array Oper} {i : Nat} {rest : List Nat} {k : List It} {s : St} {o : Oper} {f : Fr}

theorem X.indexAddr {t : TypeId} {x ix : Operand} {sx si r : SV} (ho : nth all.toList i = some o) (hg : o.guard = none) (hop : o.op = .indexAddr t x ix) (hx : ev s.fr x = some sx) (hi : ev s.fr ix = some si)
    (hp : putO E.n s.fr o.dst (.val r) = some f)
    (h : ∀ (N : Nums) (w : World) (a b : Value), E.N0.le N → sx.den N = some a → si.den N = some b → ∃ v, r.den N = some v ∧ (Instr.indexAt t a b).run E.P w = .ok v w)
    (hk : X E (.ops all rest :: k) ⟨f, s.rg⟩) : X E (.ops all (i :: rest) :: k) s := by
  refine X.value ho hg r hp (fun N a w hN hfr hS => ?_) hk
  obtain ⟨v, h1, h2⟩ := h N w _ _ hN (ev_sound hfr hx) (ev_sound hfr hi)
  exact ⟨v, h1, by simp [execOp, hop, h2]⟩

/-- an element's address, of a slice: number z -/
theorem X.idxSl {t e : TypeId} {x ix : Operand} {b y n c : Nat} {kd : IntKind} {ex : SI} (ho : nth all.toList i = some o) (hg : o.guard = none) (hop : o.op = .indexAddr t x ix) (hx : ev s.fr x = some (.sl b y n c)) (hi : ev s.fr ix = some (.int kd ex))
    (hu : E.P.underlying t = some (.slice e)) {q : Nat} (hq : ∀ w, (sizeOf e).run E.P w = .ok q w) (z : Nat) (hz : ex.den = (z : Int)) (hlt : z < n) (y' : Nat) (hy : y' = y + z * q)
    (hp : putO E.n s.fr o.dst (.val (.ext b y' 0)) = some f) (hk : X E (.ops all rest :: k) ⟨f, s.rg⟩) : X E (.ops all (i :: rest) :: k) s := by
  refine X.indexAddr ho hg hop hx hi hp (fun N w a b' hN ha hb => ?_) hk
  simp only [SV.den, Option.some.injEq] at ha hb
  subst ha; subst hb; subst hy
  refine ⟨_, rfl, ?_⟩
  simp [Instr.indexAt, asIntOf, run_underlying hu, Result.andThen, hz, hlt, hq, addr_add]

/-- .. of a slice of which it is not told whether it is nil -/
theorem X.idxSlv {t e : TypeId} {x ix : Operand} {p : Option Addr} {n c : Nat} {kd : IntKind} {ex : SI} (ho : nth all.toList i = some o) (hg : o.guard = none) (hop : o.op = .indexAddr t x ix) (hx : ev s.fr x = some (.slv p n c)) (hi : ev s.fr ix = some (.int kd ex))
    (hu : E.P.underlying t = some (.slice e)) {q : Nat} (hq : ∀ w, (sizeOf e).run E.P w = .ok q w) (z : Nat) (hz : ex.den = (z : Int)) (hlt : z < n) (b y y' : Nat) (hp0 : p = some ⟨b, y, none⟩) (hy : y' = y + z * q)
    (hp : putO E.n s.fr o.dst (.val (.ext b y' 0)) = some f) (hk : X E (.ops all rest :: k) ⟨f, s.rg⟩) : X E (.ops all (i :: rest) :: k) s := by
  refine X.indexAddr ho hg hop hx hi hp (fun N w a b' hN ha hb => ?_) hk
  simp only [SV.den, Option.some.injEq] at ha hb
  subst ha; subst hb; subst hy; subst hp0
  refine ⟨_, rfl, ?_⟩
  simp [Instr.indexAt, asIntOf, run_underlying hu, Result.andThen, hz, hlt, hq, addr_add]

/-- an element's address, of an array: number z -/
theorem X.idxArr {t e : TypeId} {x ix : Operand} {b y c n : Nat} {kd : IntKind} {ex : SI} (ho : nth all.toList i = some o) (hg : o.guard = none) (hop : o.op = .indexAddr t x ix) (hx : ev s.fr x = some (.ext b y c)) (hi : ev s.fr ix = some (.int kd ex))
    (hu : E.P.underlying t = some (.array n e)) {q : Nat} (hq : ∀ w, (sizeOf e).run E.P w = .ok q w) (z : Nat) (hz : ex.den = (z : Int)) (hlt : z < n) (r : SV) (hr : ∀ N, E.N0.le N → r.den N = some (.pointer (some ⟨b, y + c + z * q, none⟩)))
    (hp : putO E.n s.fr o.dst (.val r) = some f) (hk : X E (.ops all rest :: k) ⟨f, s.rg⟩) : X E (.ops all (i :: rest) :: k) s := by
  refine X.indexAddr ho hg hop hx hi hp (fun N w a b' hN ha hb => ?_) hk
  simp only [SV.den, Option.some.injEq] at ha hb
  subst ha; subst hb
  refine ⟨_, hr N hN, ?_⟩
  simp [Instr.indexAt, asIntOf, run_underlying hu, Result.andThen, hz, hlt, hq, addr_add, Instr.sureAddr]

/-- a scalar, loaded from elsewhere -/
theorem X.load1 (hT : TabOk E.P T) {t : TypeId} {x : Operand} {b y c : Nat} {r : SV} {ti : TI} (ho : nth all.toList i = some o) (hg : o.guard = none) (hop : o.op = .load t x) (hx : ev s.fr x = some (.ext b y c)) (ht : lookT T t = some ti) (ha : ti.agg = false)
    (hr : ∀ N, E.N0.le N → ∃ v, r.den N = some v ∧ E.im b (y + c) = some v) (hp : putO E.n s.fr o.dst (.val r) = some f) (hk : X E (.ops all rest :: k) ⟨f, s.rg⟩) : X E (.ops all (i :: rest) :: k) s := by
  refine X.value ho hg r hp (fun N a w hN hfr hS => ?_) hk
  obtain ⟨v, h1, h2⟩ := hr N hN
  have hx' := ev_sound hfr hx
  simp only [SV.den, Option.some.injEq] at hx'
  refine ⟨v, h1, ?_⟩
  simp only [execOp, hop, ← hx', Instr.loadAt, Instr.sureAddr, loadVar, Sem.run_bind, Sem.run_pure, Result.andThen, (hT.ok t ti ht).agg, ha, Bool.false_eq_true, if_false]
  simp [hS.imm _ _ _ h2]

/-- a struct or an array, loaded from elsewhere -/
theorem X.loadN (hT : TabOk E.P T) {t : TypeId} {x : Operand} {b y c : Nat} {rs : List SV} {ti : TI} (ho : nth all.toList i = some o) (hg : o.guard = none) (hop : o.op = .load t x) (hx : ev s.fr x = some (.ext b y c)) (ht : lookT T t = some ti) (ha : ti.agg = true) (hl : rs.length = ti.size)
    (hr : ∀ N, E.N0.le N → ∃ vs, SV.denL N rs = some vs ∧ ∀ (j : Nat) (v : Value), vs[j]? = some v → E.im b (y + c + j) = some v) (hp : putO E.n s.fr o.dst (.val (.agg rs)) = some f) (hk : X E (.ops all rest :: k) ⟨f, s.rg⟩) : X E (.ops all (i :: rest) :: k) s := by
  refine X.value ho hg _ hp (fun N a w hN hfr hS => ?_) hk
  obtain ⟨vs, h1, h2⟩ := hr N hN
  have hx' := ev_sound hfr hx
  simp only [SV.den, Option.some.injEq] at hx'
  refine ⟨.agg vs.toArray, by simp [SV.den, h1], ?_⟩
  have hlen : vs.length = ti.size := by rw [(SV.denL_get _ h1).1, hl]
  have hrun := run_loadCells_list (P := E.P) w ⟨b, y + c, none⟩ vs (fun j v hj => by rw [addr_add]; exact hS.imm _ _ _ (h2 j v hj))
  rw [hlen] at hrun
  simp only [execOp, hop, ← hx', Instr.loadAt, Instr.sureAddr, loadVar, Sem.run_bind, Sem.run_pure, Result.andThen, (hT.ok t ti ht).agg, ha, if_true, (hT.ok t ti ht).size, hrun]

end

/-- what a region of one's own holds, at the end -/
theorem Sat.at {E : Env} {N : Nums} {rg : List Rg} {w : World} (h : Sat E N rg w) {r : Nat} {p : Num} (hp : N[r]? = some p) {j : Nat} {c : SV} {g : Rg} (hg : rg[r]? = some g) (hj : g.cells[j]? = some c) {v : Value} (hv : c.den N = some v) : w.cell? ⟨p.b, p.o + j, none⟩ = some v := by
  obtain ⟨u, h1, h2⟩ := h.cell r g p hg hp j c hj
  rw [hv] at h1; cases h1; exact h2

/-- nothing was one's own: nothing that was there has turned -/
theorem Chg.none {w w' : World} (h : Chg (InR [] []) w w') : Chg (fun _ _ => False) w w' := h.mono (fun k o _ hn => by obtain ⟨r, g, p, hg, _⟩ := hn; simp at hg)

end Go.Eng
