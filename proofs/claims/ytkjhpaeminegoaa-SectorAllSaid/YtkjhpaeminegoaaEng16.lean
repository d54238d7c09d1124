/- The symbolic executor, part 16: slices held against nil; nothing appended. -/
import Derived.Test.YtkjhpaeminegoaaEng15

namespace Go.Eng

theorem run_equalIn_nil {P : Program} {w : World} {t e : Nat} (d : Nat) (h : P.underlying t = some (.slice e)) (p : Option Addr) (n c : Nat) : (Op.equalIn (d + 1) t (.slice p n c) (.slice none 0 0)).run P w = .ok p.isNone w := by
  simp only [Op.equalIn, Sem.run_bind, run_underlying h, Result.andThen]
  cases p <;> rfl

theorem run_equal_nil {P : Program} {w : World} {t e : Nat} (h : P.underlying t = some (.slice e)) (p : Option Addr) (n c : Nat) : (Op.equal t (.slice p n c) (.slice none 0 0)).run P w = .ok p.isNone w := run_equalIn_nil 9999 h p n c

section
variable {E : Ctx} {T : Tab} {all : Array Oper} {i : Nat} {rest : List Nat} {k : List It} {s : St} {o : Oper} {f : Fr}

/-- is a slice nil? -/
theorem X.eqNil {t e : TypeId} {x : Operand} {sx : SV} (b : Bool) (ho : nth all.toList i = some o) (hg : o.guard = none) (hop : o.op = .binOp .eql t x (.const (.slice none 0 0)) t) (hx : ev s.fr x = some sx) (hu : E.P.underlying t = some (.slice e))
    (hd : ∀ N, E.N0.le N → N.length = s.rg.length → ∃ p n c, sx.den N = some (.slice p n c) ∧ p.isNone = b) (hp : putO E.n s.fr o.dst (.val (.bool (.lit b))) = some f) (hk : X E (.ops all rest :: k) ⟨f, s.rg⟩) : X E (.ops all (i :: rest) :: k) s := by
  refine X.value ho hg (.bool (.lit b)) hp (fun N a w hN hfr hS => ?_) hk
  obtain ⟨p, n, c, h1, h2⟩ := hd N hN hS.len
  have hx' := ev_sound hfr hx
  rw [h1] at hx'
  simp only [Option.some.injEq] at hx'
  refine ⟨_, rfl, ?_⟩
  have hgd := eqGuard_none (w := w) (P := E.P) .eql t x (.const (.slice none 0 0)) (a := .slice p n c) (b := .slice none 0 0) (fun _ _ h => by cases h) (fun h => by cases h)
  have hcst : a.eval (.const (.slice none 0 0)) = .slice none 0 0 := rfl
  simp only [execOp, hop, ← hx', hcst, Sem.run_bind, hgd, Result.andThen, binOp, Sem.run_map, run_equal_nil hu, h2, SB.den, Sem.run_pure]

/-- nothing is appended -/
theorem X.app0 (hT : TabOk E.P T) {x y : Operand} {ts tx e e' r0 c : Nat} {ti te tj : TI} {p : Option Addr} (ho : nth all.toList i = some o) (hg : o.guard = none) (hop : o.op = .call { callee := .builtin .append, args := #[x, y], argTypes := #[ts, tx] })
    (hx : ev s.fr x = some (.osl r0 0 0 te.size (some 0))) (hy : ev s.fr y = some (.slv p 0 c)) (hti : lookT T ts = some ti) (hk : ti.kind = .slice e) (hte : lookT T e = some te) (htj : lookT T tx = some tj) (hkj : tj.kind = .slice e') (h0 : 0 < te.size) (hz : te.zero.length = te.size)
    (hb : 256 * te.bytes ≤ 281474976710656)
    (hp : putO E.n s.fr o.dst (.val (.osl r0 0 0 te.size (some 0))) = some f) (hX : X E (.ops all rest :: k) ⟨f, s.rg⟩) : X E (.ops all (i :: rest) :: k) s := by
  refine X.value ho hg _ hp (fun N a w hN hfr hS => ?_) hX
  have hx' := ev_sound hfr hx
  have hy' := ev_sound hfr hy
  refine ⟨_, hx', ?_⟩
  simp only [SV.den, Option.some.injEq] at hy'
  have hval : ∃ base, a.eval x = .slice base 0 0 := by
    simp only [SV.den] at hx'
    cases hr : N[r0]? with
    | none => simp [hr] at hx'
    | some q => simp only [hr, Option.some.injEq] at hx'; exact ⟨_, hx'.symm⟩
  obtain ⟨base, hval⟩ := hval
  have ok := (hT.ok ts ti hti).kind
  rw [hk] at ok
  have ok' : E.P.underlying ts = some (.slice e) := ok
  have okj := (hT.ok tx tj htj).kind
  rw [hkj] at okj
  have okj' : E.P.underlying tx = some (.slice e') := okj
  have oke := hT.ok e te hte
  obtain ⟨z, hzv, hzd⟩ := oke.zero
  obtain ⟨inf, hi, hib⟩ := oke.info
  have hzs : z.cells.size = te.size := by
    have := (SV.denL_get _ hzd).1
    simp at this; omega
  have hrun := run_append (P := E.P) (w := w) (ta := #[ts, tx]) (ty := o.type) (zero := z) (s := .slice base 0 0) (x := .slice p 0 c) (base := base) (n := 0) (cap := 0) (m := 0) (old := []) (vs := []) (wf := w) rfl rfl ok' hi (fun w => by rw [hzs]; exact oke.size w) hzv (by omega) rfl
    ⟨.inr ⟨⟨_, okj', fun k h => by cases h⟩, fun w => rfl⟩, by omega⟩ (by rw [hib]; omega) (by omega)
    (fun w' _ _ => by
      cases p with
      | none => rfl
      | some a => simp [Builtin.firstCells, loadCells, loadCellsFrom]) (fun h => by omega) (fun _ => by cases base <;> rfl)
  have hrun := hrun.1 (by omega)
  rw [hval]
  simp only [execOp, hop, resolve, Sem.run_bind, Sem.run_pure, Result.andThen, invoke, builtin]
  have hm : Array.map a.eval #[x, y] = #[.slice base 0 0, .slice p 0 c] := by
    apply Array.ext'
    simp [hval, ← hy']
  rw [hm, hrun]

end
end Go.Eng
