/- The symbolic executor, part 12: memory of which an assertion tells: loads, stores, calls that turn it. -/
import Derived.Test.YtkjhpaeminegoaaEng11

namespace Go.Eng

/-! ### a row of cells, written -/
def putRow (w : World) (b o : Nat) : List Value → World
  | [] => w
  | v :: r => putRow (w.setCell ⟨b, o, none⟩ v) b (o + 1) r

theorem putRow_frozen (b : Nat) : ∀ (vs : List Value) (o : Nat) (w : World) (a : Addr), (putRow w b o vs).frozen? a = w.frozen? a
  | [], _, _, _ => rfl
  | v :: vs, o, w, a => by rw [putRow, putRow_frozen b vs, World.frozen?_setCell]

theorem putRow_other (b : Nat) : ∀ (vs : List Value) (o : Nat) (w : World) (k i : Nat), (k = b → i < o ∨ o + vs.length ≤ i) → (putRow w b o vs).cell? ⟨k, i, none⟩ = w.cell? ⟨k, i, none⟩
  | [], _, _, _, _, _ => rfl
  | v :: vs, o, w, k, i, h => by
    rw [putRow, putRow_other b vs (o + 1) _ k i (fun e => by have := h e; simp at this; omega)]
    exact World.cell?_setCell_other _ _ _ _ (fun e => by
      have e1 := congrArg Addr.block e
      have e2 := congrArg Addr.off e
      simp at e1 e2
      have := h e1.symm
      simp at this; omega)

theorem putRow_same (b : Nat) : ∀ (vs : List Value) (o : Nat) (w : World), (∀ j, j < vs.length → (w.cell? ⟨b, o + j, none⟩).isSome = true) → ∀ (j : Nat) (v : Value), vs[j]? = some v → (putRow w b o vs).cell? ⟨b, o + j, none⟩ = some v
  | [], _, _, _, j, v, h => by simp at h
  | u :: vs, o, w, hs, j, v, h => by
    obtain ⟨u0, hu0⟩ := Option.isSome_iff_exists.1 (hs 0 (by simp))
    cases j with
    | zero =>
      simp at h; subst h
      rw [putRow, putRow_other b vs (o + 1) _ b (o + 0) (fun _ => by omega)]
      exact World.cell?_setCell_same _ _ _ hu0
    | succ j =>
      rw [putRow, show o + (j + 1) = o + 1 + j by omega]
      refine putRow_same b vs (o + 1) _ (fun i hi => ?_) j v (by simpa using h)
      have := hs (i + 1) (by simp; omega)
      rw [World.cell?_setCell_other _ _ _ _ (fun e => by have := congrArg Addr.off e; simp at this; omega), show o + 1 + i = o + (i + 1) by omega]
      exact this

theorem putRow_objAt (b : Nat) : ∀ (vs : List Value) (o : Nat) (w : World) (k : Nat), objAt (putRow w b o vs) k = objAt w k
  | [], _, _, _ => rfl
  | v :: vs, o, w, k => by rw [putRow, putRow_objAt b vs, objAt_setCell]

theorem putRow_chg (b : Nat) : ∀ (vs : List Value) (o : Nat) (w : World), Chg (fun k i => k = b ∧ o ≤ i ∧ i < o + vs.length) w (putRow w b o vs)
  | [], _, w => Chg.refl _ w
  | v :: vs, o, w => by
    refine Chg.trans (O' := fun k i => k = b ∧ o + 1 ≤ i ∧ i < o + 1 + vs.length) ((Chg.refl _ w).setCell (k := b) (o := o) (.inr ⟨rfl, Nat.le_refl _, by simp⟩) v) (putRow_chg b vs (o + 1) _) (fun k i _ h => ?_)
    obtain ⟨h1, h2, h3⟩ := h
    simp
    omega

theorem run_putRow {P : Program} (b o : Nat) : ∀ (vs : List Value) (i : Nat) (w : World), (∀ j, j < vs.length → (w.cell? ⟨b, o + i + j, none⟩).isSome = true ∧ w.frozen? ⟨b, o + i + j, none⟩ = false) → (∀ v ∈ vs, one? v = true) →
    (storeCells ⟨b, o, none⟩ vs i).run P w = .ok () (putRow w b (o + i) vs)
  | [], _, _, _, _ => rfl
  | v :: vs, i, w, hs, h1 => by
    obtain ⟨h2, h3⟩ := hs 0 (by simp)
    obtain ⟨u0, hu0⟩ := Option.isSome_iff_exists.1 h2
    simp only [Nat.add_zero] at hu0 h3
    simp only [storeCells, Sem.run_bind]
    rw [run_store P w _ v .plain (one_oneCell (h1 v (by simp))), addr_add]
    simp only [hu0, h3]
    have := run_putRow (P := P) b o vs (i + 1) (w.setCell ⟨b, o + i, none⟩ v) (fun j hj => by
      obtain ⟨k1, k2⟩ := hs (j + 1) (by simp; omega)
      rw [World.frozen?_setCell, World.cell?_setCell_other _ _ _ _ (fun e => by have := congrArg Addr.off e; simp at this; omega), show o + (i + 1) + j = o + i + (j + 1) by omega]
      exact ⟨k1, k2⟩) (fun v hv => h1 v (by simp [hv]))
    simpa [Result.andThen, putRow, Nat.add_assoc] using this

/-! ### steering -/
section
variable {E : Ctx} {T : Tab} {all : Array Oper} {i : Nat} {rest : List Nat} {k : List It} {s : St} {o : Oper} {f : Fr}

/-- to another state, in another environment, that says no more -/
theorem X.conv (h : ∀ (N : Nums) (a : Act) (w : World), E.N0.le N → FrOk E.n N s.fr a → Sat E.toEnv N s.rg w → ∃ (E' : Ctx) (s' : St), E'.P = E.P ∧ E'.n = E.n ∧ E'.Q = E.Q ∧ E'.B = E.B ∧ At E' s' a w ∧ X E' k s') : X E k s := by
  intro N a w hN hf hS
  obtain ⟨E', s', e1, e2, e3, e4, ⟨N', h1, h2, h3⟩, hx⟩ := h N a w hN hf hS
  have := hx N' a w h1 h2 h3
  rw [e1, e3, e4] at this
  exact this

/-- a scalar, loaded from where the assertion tells -/
theorem X.load1R (hT : TabOk E.P T) {t : TypeId} {x : Operand} {b y c : Nat} {r : SV} {ti : TI} (ho : nth all.toList i = some o) (hg : o.guard = none) (hop : o.op = .load t x) (hx : ev s.fr x = some (.ext b y c)) (ht : lookT T t = some ti) (ha : ti.agg = false)
    (hr : ∀ N w, E.N0.le N → E.R w → ∃ v, r.den N = some v ∧ w.cell? ⟨b, y + c, none⟩ = some v) (hp : putO E.n s.fr o.dst (.val r) = some f) (hk : X E (.ops all rest :: k) ⟨f, s.rg⟩) : X E (.ops all (i :: rest) :: k) s := by
  refine X.value ho hg r hp (fun N a w hN hfr hS => ?_) hk
  obtain ⟨v, h1, h2⟩ := hr N w hN hS.res
  have hx' := ev_sound hfr hx
  simp only [SV.den, Option.some.injEq] at hx'
  refine ⟨v, h1, ?_⟩
  have ok := hT.ok t ti ht
  simp only [execOp, hop, ← hx', Instr.loadAt, Instr.sureAddr, loadVar, Sem.run_bind, Sem.run_pure, Result.andThen, ok.agg, ha, Bool.false_eq_true, if_false]
  simp [h2]

/-- a struct or an array, loaded from where the assertion tells -/
theorem X.loadNR (hT : TabOk E.P T) {t : TypeId} {x : Operand} {b y c : Nat} {rs : List SV} {ti : TI} (ho : nth all.toList i = some o) (hg : o.guard = none) (hop : o.op = .load t x) (hx : ev s.fr x = some (.ext b y c)) (ht : lookT T t = some ti) (ha : ti.agg = true) (hl : rs.length = ti.size)
    (hr : ∀ N w, E.N0.le N → E.R w → ∃ vs, SV.denL N rs = some vs ∧ ∀ (j : Nat) (v : Value), vs[j]? = some v → w.cell? ⟨b, y + c + j, none⟩ = some v) (hp : putO E.n s.fr o.dst (.val (.agg rs)) = some f) (hk : X E (.ops all rest :: k) ⟨f, s.rg⟩) : X E (.ops all (i :: rest) :: k) s := by
  refine X.value ho hg _ hp (fun N a w hN hfr hS => ?_) hk
  obtain ⟨vs, h1, h2⟩ := hr N w hN hS.res
  have hx' := ev_sound hfr hx
  simp only [SV.den, Option.some.injEq] at hx'
  refine ⟨.agg vs.toArray, by simp [SV.den, h1], ?_⟩
  have ok := hT.ok t ti ht
  have hlen : vs.length = ti.size := by rw [(SV.denL_get _ h1).1, hl]
  have := run_loadCells_list (P := E.P) w ⟨b, y + c, none⟩ vs (fun j v hj => by rw [addr_add]; exact h2 j v hj)
  rw [hlen] at this
  simp only [execOp, hop, ← hx', Instr.loadAt, Instr.sureAddr, loadVar, Sem.run_bind, Sem.run_pure, Result.andThen, ok.agg, ha, if_true, ok.size, this]

/-- the environment with another assertion -/
@[reducible] def Ctx.withR (E : Ctx) (R' : World → Prop) : Ctx := { E with R := R' }

/-- .. on other blocks -/
@[reducible] def Ctx.withDR (E : Ctx) (D' : Nat → Nat → Prop) (R' : World → Prop) : Ctx := { E with D := D', R := R' }

theorem Sat.turn {E : Env} {N : Nums} {rg : List Rg} {w w' : World} {D' : Nat → Nat → Prop} {R' : World → Prop} (h : Sat E N rg w) (hc : Chg E.D w w') (hO : ∀ k o, E.D k o → E.W.heap.size ≤ k ∨ E.O k o) (him : ∀ k o, E.D k o → E.im k o = none)
    (hrg : ∀ g ∈ rg, g.own = true ∨ g.cells = []) (hD : ∀ k o, D' k o → (E.D k o ∨ w.heap.size ≤ k) ∧ There w' k o) (hl : Loc D' R') (hR : R' w') : Sat { E with D := D', R := R' } N rg w' := by
  refine h.after (rg' := rg) (m' := E.im) hc (fun k o _ hd => .inr ⟨hd, hO k o hd⟩) ⟨fun _ _ _ h => h, fun k o v hv => ?_, fun _ _ _ h => .inl h⟩ hD hl hR rfl (fun r g g' p hg hg' hp => ?_)
  · refine cell_of_chg hc (fun hd => ?_) (h.imm k o v hv)
    rw [him k o hd] at hv; cases hv
  · rw [hg] at hg'; cases hg'
    refine ⟨rfl, rfl, fun _ => rfl, fun ho => h.ext r g p hg hp ho, .inl ⟨rfl, fun j hj => ?_⟩⟩
    rcases hrg g (List.mem_of_getElem? hg) with ho | ho
    · exact h.dd r g p hg hp ho j (Nat.lt_of_lt_of_le hj (h.ext r g p hg hp ho))
    · rw [ho] at hj; simp at hj

/-- cells of which the assertion told become a region of one's own -/
theorem Sat.focus {E : Env} {N : Nums} {rg : List Rg} {w : World} (h : Sat E N rg w) {b o : Nat} {cs : List SV} (D' : Nat → Nat → Prop) (R' : World → Prop) (hb : b < w.heap.size)
    (hcs : ∀ (j : Nat) (c : SV), cs[j]? = some c → ∃ v, c.den N = some v ∧ w.cell? ⟨b, o + j, none⟩ = some v) (hfz : ∀ j, j < cs.length → w.frozen? ⟨b, o + j, none⟩ = false)
    (hD : ∀ j, j < cs.length → E.D b (o + j)) (hD' : ∀ k i, D' k i → E.D k i ∧ ¬ (k = b ∧ o ≤ i ∧ i < o + cs.length)) (hO : E.W.heap.size ≤ b ∨ ∀ j, j < cs.length → E.O b (o + j)) (him : ∀ j, j < cs.length → E.im b (o + j) = none)
    (hrg : ∀ g ∈ rg, g.own = true ∨ g.cells = []) (hl : Loc D' R') (hR : R' w) : Sat { E with D := D', R := R' } (N ++ [⟨b, o, cs.length⟩]) (rg ++ [⟨true, cs, none⟩]) w := by
  have hle : N.le (N ++ [⟨b, o, cs.length⟩]) := Nums.le_append _ _
  refine ⟨by simp [h.len], ?_, ?_, ?_, ?_, ?_, ?_, ?_, h.imm, ?_, ?_, fun k i hk => h.dlt k i (hD' k i hk).1, hl, hR, h.chg, ?_⟩
  · intro i q hq
    rcases Nat.lt_or_ge i N.length with hi | hi
    · rw [List.getElem?_append_left hi] at hq; exact h.lt i q hq
    · rw [List.getElem?_append_right hi] at hq
      have hz : i - N.length = 0 := by
        have := (List.getElem?_eq_some_iff.1 hq).1
        simp at this; omega
      rw [hz] at hq; simp at hq; subst hq; exact hb
  · intro i x q hx hq j d hj
    rcases get_snoc h.len hx hq with ⟨a, b⟩ | ⟨_, rfl, rfl⟩
    · obtain ⟨v, h1, h2⟩ := h.cell i x q a b j d hj
      exact ⟨v, SV.den_mono hle d h1, h2⟩
    · obtain ⟨v, h1, h2⟩ := hcs j d hj
      exact ⟨v, SV.den_mono hle d h1, h2⟩
  · intro i x q hx hq hox
    rcases get_snoc h.len hx hq with ⟨a, b⟩ | ⟨_, rfl, rfl⟩
    · exact h.ext i x q a b hox
    · exact Nat.le_refl _
  · intro i x q hx hq hox
    rcases get_snoc h.len hx hq with ⟨a, b⟩ | ⟨_, rfl, rfl⟩
    · exact h.room i x q a b hox
    · exact fun j hj => ⟨by
        obtain ⟨c, hcj⟩ : ∃ c, cs[j]? = some c := ⟨_, List.getElem?_eq_getElem hj⟩
        obtain ⟨v, _, hv⟩ := hcs j c hcj
        rw [hv]; rfl, hfz j hj⟩
  · intro i i' x x' q q' hx hq hx' hq' hox hne j hj hb
    rcases get_snoc h.len hx hq with ⟨a1, a2⟩ | ⟨a0, rfl, rfl⟩ <;> rcases get_snoc h.len hx' hq' with ⟨b1, b2⟩ | ⟨b0, rfl, rfl⟩
    · exact h.disj i i' x x' q q' a1 a2 b1 b2 hox hne j hj hb
    · simp [Rg.wid] at hj hb ⊢
      have h1 := hD j hj
      rcases Nat.lt_or_ge (o + j) q.o with h2 | h2
      · exact .inl h2
      · right
        rcases Nat.lt_or_ge (o + j) (q.o + q.x) with h3 | h3
        · exfalso
          have := h.dd i x q a1 a2 hox (o + j - q.o) (by omega)
          rw [← hb, show q.o + (o + j - q.o) = o + j by omega] at this
          exact this h1
        · exact h3
    · simp at hb ⊢
      rcases hrg x' (List.mem_of_getElem? b1) with ho' | ho'
      · unfold Rg.wid at hj
        rw [ho'] at hj
        simp only [cond_true] at hj
        have h4 := h.dd i' x' q' b1 b2 ho' j hj
        rw [hb] at h4
        rcases Nat.lt_or_ge (q'.o + j) o with h2 | h2
        · exact .inl h2
        · right
          rcases Nat.lt_or_ge (q'.o + j) (o + cs.length) with h3 | h3
          · exfalso
            have h1 := hD (q'.o + j - o) (by omega)
            rw [show o + (q'.o + j - o) = q'.o + j by omega] at h1
            exact h4 h1
          · exact h3
      · unfold Rg.wid at hj
        rw [ho'] at hj
        cases hxo : x'.own with
        | false => rw [hxo] at hj; simp at hj
        | true =>
          rw [hxo] at hj
          simp only [cond_true] at hj
          have h4 := h.dd i' x' q' b1 b2 hxo j hj
          rw [hb] at h4
          rcases Nat.lt_or_ge (q'.o + j) o with h2 | h2
          · exact .inl h2
          · right
            rcases Nat.lt_or_ge (q'.o + j) (o + cs.length) with h3 | h3
            · exfalso
              have h1 := hD (q'.o + j - o) (by omega)
              rw [show o + (q'.o + j - o) = q'.o + j by omega] at h1
              exact h4 h1
            · exact h3
    · omega
  · intro i x q ob hx hq hxo
    rcases get_snoc h.len hx hq with ⟨a, b⟩ | ⟨_, rfl, rfl⟩
    · obtain ⟨⟨o', k1, k2⟩, k3⟩ := h.obj i x q ob a b hxo
      exact ⟨⟨o', Ob.den_mono hle ob k1, k2⟩, k3.1, fun o hd => k3.2 o (hD' _ _ hd).1⟩
    · simp at hxo
  · intro i i' x x' q q' hx hq hx' hq' hox hox' hne
    rcases get_snoc h.len hx hq with ⟨a1, a2⟩ | ⟨a0, rfl, rfl⟩
    · rcases get_snoc h.len hx' hq' with ⟨b1, b2⟩ | ⟨b0, rfl, rfl⟩
      · exact h.odisj i i' x x' q q' a1 a2 b1 b2 hox hox' hne
      · simp at hox'
    · simp at hox
  · intro i x q hx hq hox
    rcases get_snoc h.len hx hq with ⟨a, b⟩ | ⟨_, rfl, rfl⟩
    · exact h.imd i x q a b hox
    · exact him
  · intro i x q hx hq hox j hj hd
    rcases get_snoc h.len hx hq with ⟨a, b⟩ | ⟨_, rfl, rfl⟩
    · exact h.dd i x q a b hox j hj (hD' _ _ hd).1
    · exact (hD' _ _ hd).2 ⟨rfl, by simp, by simp at hj ⊢; omega⟩
  · intro i x q hx hq hox
    rcases get_snoc h.len hx hq with ⟨a, b⟩ | ⟨_, rfl, rfl⟩
    · exact h.foot i x q a b hox
    · exact hO

/-- a region of one's own becomes cells of which the assertion tells -/
theorem Sat.give {E : Env} {N : Nums} {rg : List Rg} {w : World} (h : Sat E N rg w) {r : Nat} {g : Rg} {p : Num} (hg : rg[r]? = some g) (hp : N[r]? = some p) (ho : g.own = true) (D' : Nat → Nat → Prop) (R' : World → Prop)
    (hD' : ∀ k i, D' k i → E.D k i ∨ (k = p.b ∧ p.o ≤ i ∧ i < p.o + p.x)) (hl : Loc D' R') (hR : R' w) : Sat { E with D := D', R := R' } N (rg.set r ⟨false, [], none⟩) w := by
  have hrl : r < rg.length := (List.getElem?_eq_some_iff.1 hg).1
  have hr := h.retire hrl
  refine { hr with dd := ?_, dlt := ?_, obj := ?_, loc := hl, res := hR }
  · intro i x q ob hx hq hxo
    rcases get_set hrl hx with ⟨rfl, rfl⟩ | ⟨hi, hx⟩
    · cases hxo
    · obtain ⟨⟨o', k1, k2⟩, k3⟩ := h.obj i x q ob hx hq hxo
      refine ⟨⟨o', k1, k2⟩, k3.1, fun o hd => ?_⟩
      rcases hD' _ _ hd with hd | ⟨e1, e2, e3⟩
      · exact k3.2 o hd
      · have := (h.room r g p hg hp ho (o - p.o) (by omega)).1
        rw [← e1] at this
        unfold World.cell? at this
        simp only [k2] at this
        cases ob <;> simp only [Ob.den] at k1 <;> split at k1 <;> first | (cases k1; done) | (cases k1; simp at this)
  · intro i x q hx hq hox j hj hd
    rcases get_set hrl hx with ⟨rfl, rfl⟩ | ⟨hi, hx⟩
    · simp at hox
    · rcases hD' _ _ hd with hd | ⟨e1, e2, e3⟩
      · exact h.dd i x q hx hq hox j hj hd
      · have := h.disj i r x g q p hx hq hg hp hox hi (q.o + j - p.o) (by simp [Rg.wid, ho]; omega) e1.symm
        omega
  · intro k i hk
    rcases hD' k i hk with hd | ⟨rfl, e2, e3⟩
    · exact h.dlt k i hd
    · have := (h.room r g p hg hp ho (i - p.o) (by omega)).1
      rw [show p.o + (i - p.o) = i by omega] at this
      exact .inl this

/-- cells of which the assertion told become a region of one's own; the regions' numbers are named -/
theorem X.focus {E : Ctx} {k : List It} {s : St} (b o : Nat) (cs : List SV) (D' : Nat → Nat → Prop) (R' : World → Prop)
    (hcs : ∀ w, E.R w → ∀ (j : Nat) (c : SV), cs[j]? = some c → ∃ v, c.den [] = some v ∧ w.cell? ⟨b, o + j, none⟩ = some v ∧ w.frozen? ⟨b, o + j, none⟩ = false) (hne : 0 < cs.length)
    (hD : ∀ j, j < cs.length → E.D b (o + j)) (hD' : ∀ k i, D' k i → E.D k i ∧ ¬ (k = b ∧ o ≤ i ∧ i < o + cs.length)) (hO : E.W.heap.size ≤ b ∨ ∀ j, j < cs.length → E.O b (o + j)) (him : ∀ j, j < cs.length → E.im b (o + j) = none)
    (hrg : ∀ g ∈ s.rg, g.own = true ∨ g.cells = []) (hl : Loc D' R') (hR : ∀ w, E.R w → R' w)
    (h : ∀ N : Nums, E.N0.le N → N.length = s.rg.length → X { E with D := D', R := R', N0 := N ++ [⟨b, o, cs.length⟩] } k ⟨s.fr, s.rg ++ [⟨true, cs, none⟩]⟩) : X E k s := by
  refine X.conv fun N a w hN hf hS => ?_
  refine ⟨{ E with D := D', R := R', N0 := N ++ [⟨b, o, cs.length⟩] }, ⟨s.fr, s.rg ++ [⟨true, cs, none⟩]⟩, rfl, rfl, rfl, rfl, ⟨_, Nums.le.refl _, hf.mono (Nums.le_append _ _), ?_⟩, h N hN hS.len⟩
  have hc := hcs w hS.res
  have hb : b < w.heap.size := by
    obtain ⟨c0, hc0⟩ : ∃ c, cs[0]? = some c := ⟨_, List.getElem?_eq_getElem hne⟩
    obtain ⟨v, _, hv, _⟩ := hc 0 c0 hc0
    exact World.block_lt_of_cell? _ _ hv
  refine hS.focus D' R' hb (fun j c hj => ?_) (fun j hj => ?_) hD hD' hO him hrg hl (hR w hS.res)
  · obtain ⟨v, h1, h2, _⟩ := hc j c hj
    exact ⟨v, SV.den_mono (N := []) (N' := N) (fun r p h => by simp at h) c h1, h2⟩
  · obtain ⟨c, hcj⟩ : ∃ c, cs[j]? = some c := ⟨_, List.getElem?_eq_getElem hj⟩
    obtain ⟨v, _, _, h3⟩ := hc j c hcj
    exact h3

/-- a row of cells, stored where the assertion tells -/
theorem X.storeR (hT : TabOk E.P T) {t : TypeId} {x y : Operand} {b o1 c : Nat} {v : SV} {ti : TI} (R' : World → Prop) (ho : nth all.toList i = some o) (hg : o.guard = none) (hop : o.op = .store t x y) (hx : ev s.fr x = some (.ext b o1 c)) (hv : ev s.fr y = some v) (ht : lookT T t = some ti)
    (hsz : v.cells.length = ti.size) (h1 : v.cells.all SV.one = true) (hD : ∀ j, j < ti.size → E.D b (o1 + c + j)) (hO : ∀ k o, E.D k o → E.W.heap.size ≤ k ∨ E.O k o) (him : ∀ k o, E.D k o → E.im k o = none) (hrg : ∀ g ∈ s.rg, g.own = true ∨ g.cells = [])
    (hcell : ∀ w, E.R w → ∀ j, j < ti.size → (w.cell? ⟨b, o1 + c + j, none⟩).isSome = true ∧ w.frozen? ⟨b, o1 + c + j, none⟩ = false)
    (hR : ∀ N w vs, E.N0.le N → E.R w → SV.denL N v.cells = some vs → R' (putRow w b (o1 + c) vs)) (hl : Loc E.D R') (hp : putO E.n s.fr o.dst (.val (.tup [])) = some f)
    (hk : X (E.withR R') (.ops all rest :: k) ⟨f, s.rg⟩) : X E (.ops all (i :: rest) :: k) s := by
  refine X.oper ho hg fun N a w hN hfr hS => ?_
  have hx' := ev_sound hfr hx
  simp only [SV.den, Option.some.injEq] at hx'
  have hnt : ∀ l, v ≠ .tup l := fun l e => by subst e; simp [SV.cells, SV.one] at h1
  have hnb : ∀ l, v ≠ .big l := fun l e => by subst e; simp [SV.cells, SV.one] at h1
  have hc := cells_den (ev_sound hfr hv) hnt hnb
  have hlen : (a.eval y).cells.toList.length = ti.size := by rw [(SV.denL_get _ hc).1, hsz]
  have hcl := hcell w hS.res
  have hrun := run_putRow (P := E.P) b (o1 + c) (a.eval y).cells.toList 0 w (fun j hj => by rw [Nat.add_zero]; exact hcl j (by omega)) (one_cells h1 hc)
  rw [Nat.add_zero] at hrun
  have hok := (hT.ok t ti ht).size
  have hex : (execOp a.eval o).run E.P w = .ok .skip (putRow w b (o1 + c) (a.eval y).cells.toList) := by
    simp only [execOp, hop, Instr.storeAt, ← hx', Instr.sureAddr, storeVar, Sem.run_bind, Sem.run_pure, Result.andThen, hok]
    rw [if_neg (by simp at hlen; simp [hlen])]
    simp [hrun]
  unfold Oper.wp
  rw [hex]
  have hchg : Chg E.D w (putRow w b (o1 + c) (a.eval y).cells.toList) := (putRow_chg b _ _ w).mono (fun k q _ ⟨e1, e2, e3⟩ => by
    have := hD (q - (o1 + c)) (by omega)
    rw [e1]; rwa [show o1 + c + (q - (o1 + c)) = q by omega] at this)
  have hS' := hS.turn hchg hO him hrg (fun k q hk => ⟨.inl hk, by
    by_cases e : k = b ∧ o1 + c ≤ q ∧ q < o1 + c + (a.eval y).cells.toList.length
    · obtain ⟨rfl, e2, e3⟩ := e
      obtain ⟨v, hv⟩ : ∃ v, (a.eval y).cells.toList[q - (o1 + c)]? = some v := ⟨_, List.getElem?_eq_getElem (by omega)⟩
      have := putRow_same k (a.eval y).cells.toList (o1 + c) w (fun j hj => (hcl j (by omega)).1) _ v hv
      rw [show o1 + c + (q - (o1 + c)) = q by omega] at this
      exact .inl (by rw [this]; rfl)
    · exact (hS.dlt k q hk).of (fun hs => by rw [putRow_other b _ _ _ k q (fun e1 => by omega)]; exact hs) (putRow_objAt _ _ _ _ _)⟩) hl (hR N w _ hN hS.res hc)
  exact hk N _ _ hN (putO_sound (x := undef) hfr rfl hp) hS'

end

/-- behind a call that turned what the assertion tells, and made blocks of which it tells from now on -/
theorem Goes.turn {E : Ctx} {N : Nums} {k : List It} {s : St} {d : Option Nat} {v : Value} {w w' : World} (D' : Nat → Nat → Prop) (R' : World → Prop) (hN : E.N0.le N) (h : Sat E.toEnv N s.rg w) (hc : Chg E.D w w') (hO : ∀ k o, E.D k o → E.W.heap.size ≤ k ∨ E.O k o) (him : ∀ k o, E.D k o → E.im k o = none)
    (hrg : ∀ g ∈ s.rg, g.own = true ∨ g.cells = []) (hD : ∀ k o, D' k o → (E.D k o ∨ w.heap.size ≤ k) ∧ There w' k o) (hl : Loc D' R') (hR : R' w') {r : SV} (hr : r.den N = some v) {f' : Fr} (hp : putO E.n s.fr d (.val r) = some f') (hx : X (E.withDR D' R') k ⟨f', s.rg⟩) : Goes E N k s.fr d v w' :=
  ⟨E.withDR D' R', N, r, s.rg, f', rfl, rfl, rfl, rfl, Nums.le.refl N, hN, h.turn hc hO him hrg hD hl hR, hr, hp, hx⟩

open Classical in
/-- what lies outside the cells of which an assertion tells -/
noncomputable def outside (D : Nat → Nat → Prop) (w : World) : Nat → Nat → Option Value := fun k o => if D k o then none else w.cell? ⟨k, o, none⟩

theorem outside_in {D : Nat → Nat → Prop} {w : World} {k o : Nat} (h : D k o) : outside D w k o = none := by simp [outside, h]
theorem outside_out {D : Nat → Nat → Prop} {w : World} {k o : Nat} (h : ¬ D k o) : outside D w k o = w.cell? ⟨k, o, none⟩ := by simp [outside, h]

/-- the environment of a body that works on cells of which an assertion tells -/
@[reducible] noncomputable def stdR (P : Program) (fn : Func) (Q : Ending → World → Prop) (w : World) (D : Nat → Nat → Prop) (R : World → Prop) (B : SchT) : Ctx :=
  mkE P fn Q w D (outside D w) D R [] B

theorem Sat.stdR {P : Program} {fn : Func} {Q : Ending → World → Prop} {w : World} {D : Nat → Nat → Prop} {R : World → Prop} {B : SchT} (hD : ∀ k o, D k o → There w k o) (hl : Loc D R) (hR : R w) : Sat (Eng.stdR P fn Q w D R B).toEnv [] [] w := by
  refine ⟨rfl, by simp, by simp, by simp, by simp, by simp, by simp, by simp, fun k o v h => ?_, by simp, by simp, hD, hl, hR, Chg.refl _ _, by simp⟩
  by_cases hd : D k o
  · rw [show (Eng.stdR P fn Q w D R B).im k o = outside D w k o from rfl, outside_in hd] at h; cases h
  · rw [show (Eng.stdR P fn Q w D R B).im k o = outside D w k o from rfl, outside_out hd] at h; exact h

theorem X.beginR {P : Program} {f : FuncId} {fn : Func} {c : Code} {args : Array Value} {w : World} {Q : Ending → World → Prop} (D : Nat → Nat → Prop) (R : World → Prop) {ss : List SV} (hf : P.funcs[f]? = some fn) (hb : fn.body = some c) {B : SchT} (hreg : regsO B fn.body = true)
    (hle : Nat.ble args.size fn.ntmps = true) (ha : SV.denL [] ss = some args.toList) (hD : ∀ k o, D k o → There w k o) (hl : Loc D R) (hR : R w) (h : X (stdR P fn Q w D R B) [.code c] ⟨argFr ss 0, []⟩) : Calls P f args w Q :=
  X.enter (stdR P fn Q w D R B) hf hb rfl rfl rfl (by rw [hb] at hreg; exact hreg) (Nat.le_of_ble_eq_true hle) ha (Sat.stdR hD hl hR) h

end Go.Eng
