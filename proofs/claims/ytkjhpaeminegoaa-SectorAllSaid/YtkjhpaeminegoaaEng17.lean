/- The symbolic executor, part 17: elements' addresses by an oracle; a slice cut short; memory that stays grows. -/
import Derived.Test.YtkjhpaeminegoaaArr2

namespace Go.Eng

/-! ### an oracle for elements' addresses -/
/-- operation j is an element's address: of what, the index, the slot, the type, which one; the value, what it yields -/
structure IdxG where
  (j x ix d t z : Nat) (sx r : SV)

def idxG (n : Nat) : List IdxG → Nat → Fr → Option (Fr × Prop)
  | [], _, _ => none
  | q :: l, i, f => bif Nat.beq i q.j then
      match putO n f (some q.d) (.val q.r) with
      | some f' => some (f', ev f (.tmp q.x) = some q.sx ∧ ∃ kd e, ev f (.tmp q.ix) = some (.int kd e) ∧ e.den = (q.z : Int))
      | none => none
    else idxG n l i f

def IdxG.ok (ops : Array Oper) (q : IdxG) : Bool := match nth ops.toList q.j with
  | some o => (match o.guard with | none => true | some _ => false) && (match o.op with | .indexAddr t' (.tmp x) (.tmp ix) => Nat.beq t' q.t && (Nat.beq x q.x && Nat.beq ix q.ix) | _ => false) && (match o.dst with | some d => Nat.beq d q.d | none => false)
  | none => false

def IdxG.good (P : Program) (N0 : Nums) (q : IdxG) : Prop := ∀ N, N0.le N → ∃ a v, q.sx.den N = some a ∧ q.r.den N = some v ∧ ∀ kd w, (Instr.indexAt q.t a (.int kd (q.z : Nat))).run P w = .ok v w

theorem idxG_ok {P : Program} {n : Nat} {ops : Array Oper} {N0 : Nums} : ∀ (l : List IdxG), l.all (IdxG.ok ops) = true → (∀ q ∈ l, q.good P N0) → OracOk P n ops N0 (fun _ => idxG n l)
  | [], _, _ => fun _ _ _ _ _ _ _ _ _ _ h => by cases h
  | q :: l, hl, hr => by
    intro rg i f f' pr N a w0 o ho hf hpr hN hfr hv
    simp only [List.all_cons, Bool.and_eq_true] at hl
    simp only [idxG] at hf
    cases hi : Nat.beq i q.j with
    | false =>
      rw [hi] at hf
      exact idxG_ok l hl.2 (fun q hq => hr q (by simp [hq])) rg i f f' pr N a w0 o ho hf hpr hN hfr hv
    | true =>
      rw [hi] at hf
      have hi := Nat.eq_of_beq_eq_true hi
      subst hi
      simp only [cond_true] at hf
      split at hf
      · rename_i f1 hput
        simp only [Option.some.injEq, Prod.mk.injEq] at hf
        obtain ⟨rfl, rfl⟩ := hf
        obtain ⟨hx, kd, ee, hix, hez⟩ := hpr
        have hok := hl.1
        unfold IdxG.ok at hok
        rw [nth_eq, Array.getElem?_toList, ho] at hok
        simp only [Bool.and_eq_true] at hok
        obtain ⟨⟨hg, hop⟩, hd⟩ := hok
        have hd : o.dst = some q.d := by
          split at hd
          · rename_i d h; rw [h, Nat.eq_of_beq_eq_true hd]
          · cases hd
        have hg : o.guard = none := by cases h : o.guard with | none => rfl | some _ => rw [h] at hg; simp at hg
        obtain ⟨t', ht⟩ : ∃ t', o.op = .indexAddr t' (.tmp q.x) (.tmp q.ix) ∧ t' = q.t := by
          split at hop
          · rename_i t' x ix h
            simp only [Bool.and_eq_true] at hop
            have e1 := Nat.eq_of_beq_eq_true hop.2.1
            have e2 := Nat.eq_of_beq_eq_true hop.2.2
            subst e1; subst e2
            exact ⟨_, h, Nat.eq_of_beq_eq_true hop.1⟩
          · cases hop
        obtain ⟨hop', rfl⟩ := ht
        have h1 := ev_sound hfr hx
        have h2 := ev_sound hfr hix
        simp only [SV.den, Option.some.injEq] at h2
        obtain ⟨va, vr, g1, g2, g3⟩ := hr q (by simp) N hN
        rw [g1] at h1
        simp only [Option.some.injEq] at h1
        refine ⟨vr, .inl ⟨by simp [Region.wanted, hg], fun w _ => ?_⟩, by rw [hd]; exact putO_sound hfr g2 hput⟩
        have := g3 kd w
        simp only [execOp, hop', ← h1, ← h2, hez, Sem.run_bind, this, Result.andThen, Sem.run_pure, Sem.run_map]
      · cases hf

/-- of a slice -/
theorem good_slv {P : Program} {N0 : Nums} {j x ix d t e z m c sz b y : Nat} {p : Option Addr} {r : SV} (hu : P.underlying t = some (.slice e)) (hq : ∀ w, (sizeOf e).run P w = .ok sz w) (hp : p = some ⟨b, y, none⟩) (hlt : z < m) (hr : ∀ N, N0.le N → r.den N = some (.pointer (some ⟨b, y + z * sz, none⟩))) :
    IdxG.good P N0 ⟨j, x, ix, d, t, z, .slv p m c, r⟩ := fun N hN => ⟨_, _, rfl, hr N hN, fun kd w => by
  subst hp
  simp [Instr.indexAt, asIntOf, run_underlying hu, Result.andThen, hlt, hq, addr_add]⟩

/-- of an array -/
theorem good_arr {P : Program} {N0 : Nums} {j x ix d t e z m sz b y : Nat} {sx r : SV} (hu : P.underlying t = some (.array m e)) (hq : ∀ w, (sizeOf e).run P w = .ok sz w) (hlt : z < m) (hs : ∀ N, N0.le N → sx.den N = some (.pointer (some ⟨b, y, none⟩)))
    (hr : ∀ N, N0.le N → r.den N = some (.pointer (some ⟨b, y + z * sz, none⟩))) : IdxG.good P N0 ⟨j, x, ix, d, t, z, sx, r⟩ := fun N hN => ⟨_, _, hs N hN, hr N hN, fun kd w => by
  simp [Instr.indexAt, asIntOf, run_underlying hu, Result.andThen, hlt, hq, addr_add, Instr.sureAddr]⟩

section
variable {E : Ctx} {T : Tab} {all : Array Oper} {i : Nat} {rest : List Nat} {k : List It} {s : St} {o : Oper} {f : Fr}

/-- a slice, cut short -/
theorem X.cut {t e : TypeId} {x up : Operand} {p : Option Addr} {n c z : Nat} {kd : IntKind} {ex : SI} (ho : nth all.toList i = some o) (hg : o.guard = none) (hop : o.op = .slice t x none (some up) none) (hx : ev s.fr x = some (.slv p n c)) (hi : ev s.fr up = some (.int kd ex))
    (hu : E.P.underlying t = some (.slice e)) {q : Nat} (hq : ∀ w, (sizeOf e).run E.P w = .ok q w) (hz : ex.den = (z : Int)) (hle : z ≤ c) (b y : Nat) (hp0 : p = some ⟨b, y, none⟩)
    (hp : putO E.n s.fr o.dst (.val (.slv p z c)) = some f) (hk : X E (.ops all rest :: k) ⟨f, s.rg⟩) : X E (.ops all (i :: rest) :: k) s := by
  refine X.value ho hg _ hp (fun N a w hN hfr hS => ?_) hk
  refine ⟨_, rfl, ?_⟩
  have h1 := ev_sound hfr hx
  have h2 := ev_sound hfr hi
  simp only [SV.den, Option.some.injEq] at h1 h2
  have hb := run_sliceBounds (P := E.P) (w := w) (ρ' := a.eval) (b := true) (len := n) (cap := c) (lo := none) (hi := some up) (mx := none) (l := none) (h := some z) (m := none) (.inl ⟨rfl, rfl⟩) (.inr ⟨kd, z, by simp [← h2, hz], rfl⟩) (.inl ⟨rfl, rfl⟩)
    (by simp) (by simpa using hle) (by simp) (by simp)
  simp only [Option.map_none, Option.map_some, Option.getD_none, Option.getD_some] at hb
  subst hp0
  simp only [execOp, hop, ← h1, Instr.sliceAt, run_underlying hu, Sem.run_bind, Result.andThen, Instr.slice, Option.map_none, Option.map_some, hb, hq, Sem.run_pure, Sem.run_map]
  have e0 : (Addr.mk b y none).add 0 = ⟨b, y, none⟩ := by rw [addr_add, Nat.add_zero]
  by_cases hc : c = 0
  · simp [hc]
  · simp [hc, e0]

end

/-! ### memory that stays grows by what a call made -/
open Classical in
/-- .. but for what the assertion tells of -/
noncomputable def grow (m : Mem) (D' : Nat → Nat → Prop) (w w' : World) : Mem := fun k o => match m k o with
  | some v => some v
  | none => if w.heap.size ≤ k ∧ ¬ D' k o then w'.cell? ⟨k, o, none⟩ else none

theorem grow_old {m : Mem} {D' : Nat → Nat → Prop} {w w' : World} {k o : Nat} {v : Value} (h : m k o = some v) : grow m D' w w' k o = some v := by unfold grow; rw [h]
theorem grow_new {m : Mem} {D' : Nat → Nat → Prop} {w w' : World} {k o : Nat} {v : Value} (hm : m k o = none) (hk : w.heap.size ≤ k) (hd : ¬ D' k o) (hv : w'.cell? ⟨k, o, none⟩ = some v) : grow m D' w w' k o = some v := by
  unfold grow; rw [hm]; simp only; rw [if_pos ⟨hk, hd⟩, hv]

/-- behind a call that turned what the assertion tells; what it made beside that stays -/
theorem Goes.grow {E : Ctx} {N : Nums} {k : List It} {s : St} {d : Option Nat} {v : Value} {w w' : World} (D' : Nat → Nat → Prop) (R' : World → Prop) (hN : E.N0.le N) (h : Sat E.toEnv N s.rg w) (hc : Chg E.D w w') (hO : ∀ k o, E.D k o → E.W.heap.size ≤ k ∨ E.O k o) (him : ∀ k o, E.D k o → E.im k o = none)
    (hrg : ∀ g ∈ s.rg, g.own = true ∨ g.cells = []) (hD : ∀ k o, D' k o → (E.D k o ∨ w.heap.size ≤ k) ∧ There w' k o) (hl : Loc D' R') (hR : R' w') {r : SV} (hr : r.den N = some v) {f' : Fr} (hp : putO E.n s.fr d (.val r) = some f')
    (hx : (∀ k o, D' k o → Eng.grow E.im D' w w' k o = none) → (∀ k o, w.heap.size ≤ k → E.im k o = none) → X { E with D := D', R := R', im := Eng.grow E.im D' w w' } k ⟨f', s.rg⟩) : Goes E N k s.fr d v w' := by
  have hnew : ∀ k o, w.heap.size ≤ k → E.im k o = none := fun k o hk => by
    cases hm : E.im k o with
    | none => rfl
    | some u =>
      have := World.block_lt_of_cell? _ _ (h.imm k o u hm)
      simp only at this
      omega
  refine ⟨{ E with D := D', R := R', im := Eng.grow E.im D' w w' }, N, r, s.rg, f', rfl, rfl, rfl, rfl, Nums.le.refl N, hN, ?_, hr, hp, hx (fun k o hk => ?_) hnew⟩
  · refine h.after (rg' := s.rg) (m' := Eng.grow E.im D' w w') hc (fun k o _ hd => .inr ⟨hd, hO k o hd⟩) ⟨fun k o v hv => grow_old hv, fun k o v hv => ?_, fun k o v hv => ?_⟩ hD hl hR rfl (fun r g g' p hg hg' hp => ?_)
    · unfold Eng.grow at hv
      split at hv
      · rename_i u hu
        simp only [Option.some.injEq] at hv; subst hv
        refine cell_of_chg hc (fun hd => ?_) (h.imm k o _ hu)
        rw [him k o hd] at hu; cases hu
      · split at hv
        · exact hv
        · cases hv
    · unfold Eng.grow at hv
      split at hv
      · rename_i u hu
        simp only [Option.some.injEq] at hv; subst hv
        exact .inl hu
      · split at hv
        · rename_i hk; exact .inr hk.1
        · cases hv
    · rw [hg] at hg'; cases hg'
      refine ⟨rfl, rfl, fun _ => rfl, fun ho => h.ext r g p hg hp ho, .inl ⟨rfl, fun j hj => ?_⟩⟩
      rcases hrg g (List.mem_of_getElem? hg) with ho | ho
      · exact h.dd r g p hg hp ho j (Nat.lt_of_lt_of_le hj (h.ext r g p hg hp ho))
      · rw [ho] at hj; simp at hj
  · unfold Eng.grow
    split
    · rename_i u hu
      rcases (hD k o hk).1 with hd | hd
      · rw [him k o hd] at hu; cases hu
      · rw [hnew k o hd] at hu; cases hu
    · rw [if_neg fun h => h.2 hk]

end Go.Eng
