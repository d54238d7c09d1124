/- Elements of arrays, told ahead. -/
import Derived.Test.YtkjhpaeminegoaaRe12

namespace Go.Eng
open Go

/-- the address of an array's element, in a region -/
theorem ValOk.arrOwn {E : Env} {N0 : Nums} {rg : List Rg} {f : Fr} {g : GK} {t e : TypeId} {x ix : Operand} {n z q r o c : Nat} {kd : IntKind} {s : SI} (hx : evK f g x = some (.own r o)) (hix : evK f g ix = some (.int kd s)) (hz : g.T → s.den = (z : Int)) (hu : E.P.underlying t = some (.array n e)) (hq : ∀ w, (sizeOf e).run E.P w = .ok q w)
    (hlt : z < n) (hc : c = o + z * q) (hr : r < rg.length) : ValOk E N0 rg f g (.indexAddr t x ix) (.own r c) := by
  intro ht N ρ op w hN0 hop hρ hV
  have h1 := hρ _ _ hx
  have h2 := hρ _ _ hix
  obtain ⟨p, hp⟩ : ∃ p, N[r]? = some p := ⟨_, List.getElem?_eq_getElem (by have := hV.1.len; omega)⟩
  simp only [SV.den, hp, hz ht, Option.some.injEq] at h1 h2
  refine ⟨.pointer (some ⟨p.b, p.o + c, none⟩), by simp only [SV.den, hp], fun w' _ => ?_⟩
  simp only [execOp, hop, ← h1, ← h2, Sem.run_bind, Result.andThen, Sem.run_pure]
  have hz' : (z : Int) < n := by omega
  simp [Instr.indexAt, asIntOf, run_underlying hu, Instr.sureAddr, Result.andThen, hlt, hq, addr_add, hc, Nat.add_assoc]

/-- cells of a region, loaded -/
theorem ValOk.loadOwn {E : Env} {N0 : Nums} {rg : List Rg} {f : Fr} {g : GK} {T : Tab} (hT : TabOk E.P T) {t : TypeId} {x : Operand} {r c : Nat} {ti : TI} {gg : Rg} {rs : List SV} (hx : evK f g x = some (.own r c)) (ht : lookT T t = some ti) (ha : ti.agg = true) (hr : rg[r]? = some gg) (hle : c + ti.size ≤ gg.cells.length) (hrs : (gg.cells.drop c).take ti.size = rs) :
    ValOk E N0 rg f g (.load t x) (.agg rs) := by
  intro _ N ρ o w hN0 hop hρ hV
  have h1 := hρ _ _ hx
  obtain ⟨p, l, hp, hd, hlen, _⟩ := hV.1.load (P := E.P) hr hle
  simp only [SV.den, hp, Option.some.injEq] at h1
  rw [hrs] at hd
  refine ⟨.agg l.toArray, by simp [SV.den, hd], fun w' hV' => ?_⟩
  obtain ⟨p', l', hp', hd', hlen', hrun⟩ := hV'.1.load (P := E.P) hr hle
  rw [hp] at hp'; cases hp'
  rw [hrs, hd] at hd'; cases hd'
  have ok := hT.ok t ti ht
  simp only [execOp, hop, ← h1, Instr.loadAt, Instr.sureAddr, loadVar, Sem.run_bind, Sem.run_pure, Result.andThen, ok.agg, ha, if_true, ok.size, hrun]

/-- an element of an array that is a value -/
theorem ValOk.idxAgg {E : Env} {N0 : Nums} {rg : List Rg} {f : Fr} {g : GK} {t e : TypeId} {x ix : Operand} {cs rs : List SV} {n z q : Nat} {kd : IntKind} {s : SI} (hx : evK f g x = some (.agg cs)) (hix : evK f g ix = some (.int kd s)) (hz : g.T → s.den = (z : Int)) (hu : E.P.underlying t = some (.array n e)) (hq : ∀ w, (sizeOf e).run E.P w = .ok q w) (ha : ∀ w, (isAgg e).run E.P w = .ok true w)
    (hlt : z < n) (hle : z * q + q ≤ cs.length) (hrs : (cs.drop (z * q)).take q = rs) : ValOk E N0 rg f g (.index t x ix) (.agg rs) := by
  intro ht N ρ o w hN0 hop hρ hV
  have h1 := hρ _ _ hx
  have h2 := hρ _ _ hix
  simp only [SV.den, hz ht, Option.some.injEq] at h1 h2
  cases hl : SV.denL N cs with
  | none => simp [hl] at h1
  | some l =>
    simp only [hl, Option.some.injEq] at h1
    have hz0 : (0 : Int) ≤ z := by omega
    have hzn : (z : Int) < n := by omega
    have key : ∀ w, ∃ v, (SV.agg rs).den N = some v ∧ (part e l.toArray (z * q)).run E.P w = .ok v w := fun w => part_sound (P := E.P) (w := w) (N := N) (r := .agg rs) (off := z * q) (hq w) (ha w) hl (by
      unfold partV
      have : Nat.ble (z * q + q) cs.length = true := Nat.ble_eq_true_of_le hle
      rw [this]; simp [hrs])
    obtain ⟨v, k1, _⟩ := key w
    refine ⟨v, k1, fun w' _ => ?_⟩
    obtain ⟨v', k1', k2⟩ := key w'
    rw [k1] at k1'; cases k1'
    simp only [execOp, hop, ← h1, ← h2, Instr.index, asIntOf, Sem.run_bind, Sem.run_pure, run_underlying hu, Result.andThen, hz0, hzn, and_self, if_true, hq, Int.toNat_natCast, k2]

/-- a row of cells, stored -/
theorem OpEq.store {T : Tab} {n : Nat} {all : Array Oper} {i : Nat} {s : St} {o : Oper} {t : TypeId} {x y : Operand} {r c : Nat} {v : SV} {ti : TI} {g : Rg} {cs' : List SV} (ho : nth all.toList i = some o) (hsu : sure all s.fr o = true) (hop : o.op = .store t x y) (hd : o.dst = none) (hx : ev s.fr x = some (.own r c)) (hy : ev s.fr y = some v) (ht : lookT T t = some ti)
    (hg : nth s.rg r = some g) (hown : g.own = true) (hl : Nat.beq v.cells.length ti.size = true) (hle : c + ti.size ≤ g.cells.length) (h1 : v.cells.all SV.one = true) (hcs : setRow g.cells c v.cells = cs') : OpEq T n all i s ⟨s.fr, s.rg.set r { g with cells := cs' }⟩ := by
  refine ⟨?_⟩
  have hble : Nat.ble (c + ti.size) g.cells.length = true := Nat.ble_eq_true_of_le hle
  simp only [opE, ho, hsu, cond_true, hop, stepE, hx, hy, ht, hg, hown, hl, hble, h1, Bool.and_self, hcs, hd, putO]

/-- a slot's value, told in other words -/
theorem X.revalV {E : Ctx} {k : List It} {s : St} (t : Nat) {v : SV} (v' : SV) (u : Value) (hl : look s.fr t = .val v) (h1 : ∀ N, v.den N = some u) (h2 : ∀ N, v'.den N = some u) (h : X E k ⟨(t, .val v') :: s.fr, s.rg⟩) : X E k s :=
  X.reval t v' hl (fun N _ x hx => by rw [h1 N] at hx; rw [h2 N]; exact hx) h

end Go.Eng
