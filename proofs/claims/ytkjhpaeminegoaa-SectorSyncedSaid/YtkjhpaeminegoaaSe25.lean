/- What some operations yield, in regions that draw their order: strings of bytes, an element of a slice. -/
import Derived.Test.YtkjhpaeminegoaaSe22

namespace Go.Proofs.Ytkjhpaeminegoaa
open Go.Eng

section
open Go
variable {P : Program} {n : Nat} {ops : Array Oper} {N0 : Nums}

/-- 'string(b)', of a region's bytes -/
theorem goodR_str {j d x src e dst r m : Nat} {kc : Option Nat} {G : Nat → Int} {cs : List SV} {u : ByteArray} {ow : Bool} (hop : ∀ o, nth ops.toList j = some o → o.op = .convert src dst (.tmp x)) (hs : P.underlying src = some (.slice e)) (he : P.underlying e = some (.int .u8)) (hd : P.underlying dst = some .string)
    (hcs : cs = bytesL G m) (hu : u = strG G m) : ValR.good P n ops N0 ⟨j, d, .raw (.string u), fun rg f => ev f (.tmp x) = some (.osl r 0 m 1 kc) ∧ nth rg r = some ⟨ow, cs, none⟩⟩ := by
  intro rg f ⟨hx, hr⟩ N a o w hN ho hfr hV
  refine ⟨_, rfl, fun w' hV' => ?_⟩
  have h1 := ev_sound hfr hx
  rw [nth_eq] at hr
  obtain ⟨p, hp⟩ : ∃ p, N[r]? = some p := ⟨_, List.getElem?_eq_getElem (by have := (List.getElem?_eq_some_iff.1 hr).1; have := hV.len; omega)⟩
  simp only [SV.den, hp, Option.some.injEq] at h1
  have := run_convert_bytes_arg (P := P) (w := w') src e hs he p.b (p.o + 0) m (p.cap 0 1 kc) ((List.range m).map G) (by simp) (fun j hj => by
    obtain ⟨v, k1, k2⟩ := hV'.cell r _ p hr hp j (.int .u8 (.v (G j))) (by rw [hcs]; exact bytesL_at hj)
    cases k1
    rw [Nat.add_zero, k2]
    simp [List.getD, List.getElem?_map, List.getElem?_range hj, SI.den]) dst hd
  simp only [execOp, hop o ho, ← h1, this, Sem.run_bind, Result.andThen, Sem.run_pure]
  subst hu
  rfl

/-- .. of bytes that lie where a region to be looked at lies -/
theorem goodR_strV {j d x src e dst r m c b y : Nat} {G : Nat → Int} {cs : List SV} {u : ByteArray} {ow : Bool} (hop : ∀ o, nth ops.toList j = some o → o.op = .convert src dst (.tmp x)) (hs : P.underlying src = some (.slice e)) (he : P.underlying e = some (.int .u8)) (hd : P.underlying dst = some .string)
    (hcs : cs = bytesL G m) (hu : u = strG G m) {q : Num} (hN0 : N0[r]? = some q) (hqb : q.b = b) (hqo : q.o = y) : ValR.good P n ops N0 ⟨j, d, .raw (.string u), fun rg f => ev f (.tmp x) = some (.slv (some ⟨b, y, none⟩) m c) ∧ nth rg r = some ⟨ow, cs, none⟩⟩ := by
  intro rg f ⟨hx, hr⟩ N a o w hN ho hfr hV
  refine ⟨_, rfl, fun w' hV' => ?_⟩
  have h1 := ev_sound hfr hx
  rw [nth_eq] at hr
  have hp := hN r q hN0
  subst hqb hqo
  simp only [SV.den, Option.some.injEq] at h1
  have := run_convert_bytes_arg (P := P) (w := w') src e hs he q.b q.o m c ((List.range m).map G) (by simp) (fun j hj => by
    obtain ⟨v, k1, k2⟩ := hV'.cell r _ q hr hp j (.int .u8 (.v (G j))) (by rw [hcs]; exact bytesL_at hj)
    cases k1
    rw [k2]
    simp [List.getD, List.getElem?_map, List.getElem?_range hj, SI.den]) dst hd
  simp only [execOp, hop o ho, ← h1, this, Sem.run_bind, Result.andThen, Sem.run_pure]
  subst hu
  rfl

/-- an element's address, of a slice over a region, its elements of one cell -/
theorem goodR_idx {j d x ix t e r m z : Nat} {kc : Option Nat} (hop : ∀ o, nth ops.toList j = some o → o.op = .indexAddr t (.tmp x) (.tmp ix)) (hu : P.underlying t = some (.slice e)) (hq : ∀ w, (sizeOf e).run P w = .ok 1 w) (hlt : z < m) :
    ValR.good P n ops N0 ⟨j, d, .own r z, fun rg f => r < rg.length ∧ ev f (.tmp x) = some (.osl r 0 m 1 kc) ∧ ∃ kd s, ev f (.tmp ix) = some (.int kd s) ∧ s.den = (z : Int)⟩ := by
  intro rg f ⟨hr, hx, kd, s, hix, hz⟩ N a o w hN ho hfr hV
  obtain ⟨p, hp⟩ : ∃ p, N[r]? = some p := ⟨_, List.getElem?_eq_getElem (by have := hV.len; omega)⟩
  have h1 := ev_sound hfr hx
  have h2 := ev_sound hfr hix
  simp only [SV.den, hp, hz, Option.some.injEq] at h1 h2
  refine ⟨.pointer (some ⟨p.b, p.o + z, none⟩), by simp only [SV.den, hp], fun w' _ => ?_⟩
  simp only [execOp, hop o ho, ← h1, ← h2, Sem.run_bind, Result.andThen, Sem.run_pure]
  simp [Instr.indexAt, asIntOf, run_underlying hu, Result.andThen, hlt, hq, addr_add]

/-- a cell, loaded -/
theorem goodR_load {T : Tab} (hT : TabOk P T) {j d x t r z : Nat} {ti : TI} {cs : List SV} {v : SV} {ow : Bool} (hop : ∀ o, nth ops.toList j = some o → o.op = .load t (.tmp x)) (ht : lookT T t = some ti) (ha : ti.agg = false) (hv : cs[z]? = some v) :
    ValR.good P n ops N0 ⟨j, d, v, fun rg f => ev f (.tmp x) = some (.own r z) ∧ nth rg r = some ⟨ow, cs, none⟩⟩ := by
  intro rg f ⟨hx, hr⟩ N a o w hN ho hfr hV
  rw [nth_eq] at hr
  obtain ⟨p, hp⟩ : ∃ p, N[r]? = some p := ⟨_, List.getElem?_eq_getElem (by have := (List.getElem?_eq_some_iff.1 hr).1; have := hV.len; omega)⟩
  have h1 := ev_sound hfr hx
  simp only [SV.den, hp, Option.some.injEq] at h1
  obtain ⟨u, k1, k2⟩ := hV.cell r _ p hr hp z v hv
  refine ⟨u, k1, fun w' hV' => ?_⟩
  obtain ⟨u', k1', k2'⟩ := hV'.cell r _ p hr hp z v hv
  rw [k1] at k1'; cases k1'
  have ok := hT.ok t ti ht
  simp only [execOp, hop o ho, ← h1, Instr.loadAt, Instr.sureAddr, loadVar, Sem.run_bind, Sem.run_pure, Result.andThen, ok.agg, ha, Bool.false_eq_true, if_false]
  simp [k2']

/-- two strings held against each other -/
theorem goodR_eqs {j d x y t : Nat} {u v : ByteArray} {b : Bool} (hop : ∀ o, nth ops.toList j = some o → o.op = .binOp .eql t (.tmp x) (.tmp y) t) (hb : b = (u.toList == v.toList)) :
    ValR.good P n ops N0 ⟨j, d, .bool (.v b), fun _ f => ev f (.tmp x) = some (.raw (.string u)) ∧ ev f (.tmp y) = some (.raw (.string v))⟩ := by
  intro rg f ⟨hx, hy⟩ N a o w hN ho hfr hV
  refine ⟨_, rfl, fun w' _ => ?_⟩
  have h1 := ev_sound hfr hx
  have h2 := ev_sound hfr hy
  simp only [SV.den, one?, if_true, Option.some.injEq] at h1 h2
  have hb' : ∀ w', (binOp .eql t (.string u) (.string v)).run P w' = .ok (.bool (u.toList == v.toList)) w' := fun w' => by
    simp [binOp, Op.stringOp]
  simp [execOp, hop o ho, ← h1, ← h2, Result.andThen, eqGuard_none, hb', SB.den, hb]
end

end Go.Proofs.Ytkjhpaeminegoaa
