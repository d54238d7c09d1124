/- The symbolic executor, part 15: cells become regions: with spare ones; to be looked at. -/
import Derived.Test.YtkjhpaeminegoaaEng14

namespace Go.Eng

section
variable {E : Ctx} {all : Array Oper} {i : Nat} {rest : List Nat} {k : List It} {s : St} {o : Oper}

/-- cells of which the assertion told become a region of one's own -/
theorem Sat.focusX {E : Env} {N : Nums} {rg : List Rg} {w : World} (h : Sat E N rg w) {b o : Nat} {cs : List SV} {x0 : Nat} (hx0 : cs.length ≤ x0) (D' : Nat → Nat → Prop) (R' : World → Prop) (hb : b < w.heap.size)
    (hcs : ∀ (j : Nat) (c : SV), cs[j]? = some c → ∃ v, c.den N = some v ∧ w.cell? ⟨b, o + j, none⟩ = some v) (hfz : ∀ j, j < x0 → (w.cell? ⟨b, o + j, none⟩).isSome = true ∧ w.frozen? ⟨b, o + j, none⟩ = false)
    (hD : ∀ j, j < x0 → E.D b (o + j)) (hD' : ∀ k i, D' k i → E.D k i ∧ ¬ (k = b ∧ o ≤ i ∧ i < o + x0)) (hO : E.W.heap.size ≤ b ∨ ∀ j, j < x0 → E.O b (o + j)) (him : ∀ j, j < x0 → E.im b (o + j) = none)
    (hrg : ∀ g ∈ rg, g.own = true ∨ g.cells = []) (hl : Loc D' R') (hR : R' w) : Sat { E with D := D', R := R' } (N ++ [⟨b, o, x0⟩]) (rg ++ [⟨true, cs, none⟩]) w := by
  have hle : N.le (N ++ [⟨b, o, x0⟩]) := Nums.le_append _ _
  refine ⟨by simp [h.len], ?_, ?_, ?_, ?_, ?_, ?_, ?_, h.imm, ?_, ?_, fun k i hk => h.dlt k i (hD' k i hk).1, hl, hR, h.chg, ?_⟩
  · intro i q hq
    rcases Nat.lt_or_ge i N.length with hi | hi
    · rw [List.getElem?_append_left hi] at hq; exact h.lt i q hq
    · rw [List.getElem?_append_right hi] at hq
      have hz : i - N.length = 0 := by
        have := (List.getElem?_eq_some_iff.1 hq).1
        simp at this; omega
      rw [hz] at hq; simp at hq; subst hq; exact hb
  · intro i x q hx hq j d hj
    rcases get_snoc h.len hx hq with ⟨a, b⟩ | ⟨_, rfl, rfl⟩
    · obtain ⟨v, h1, h2⟩ := h.cell i x q a b j d hj
      exact ⟨v, SV.den_mono hle d h1, h2⟩
    · obtain ⟨v, h1, h2⟩ := hcs j d hj
      exact ⟨v, SV.den_mono hle d h1, h2⟩
  · intro i x q hx hq hox
    rcases get_snoc h.len hx hq with ⟨a, b⟩ | ⟨_, rfl, rfl⟩
    · exact h.ext i x q a b hox
    · exact hx0
  · intro i x q hx hq hox
    rcases get_snoc h.len hx hq with ⟨a, b⟩ | ⟨_, rfl, rfl⟩
    · exact h.room i x q a b hox
    · exact hfz
  · intro i i' x x' q q' hx hq hx' hq' hox hne j hj hb
    rcases get_snoc h.len hx hq with ⟨a1, a2⟩ | ⟨a0, rfl, rfl⟩ <;> rcases get_snoc h.len hx' hq' with ⟨b1, b2⟩ | ⟨b0, rfl, rfl⟩
    · exact h.disj i i' x x' q q' a1 a2 b1 b2 hox hne j hj hb
    · simp [Rg.wid] at hj hb ⊢
      have h1 := hD j hj
      rcases Nat.lt_or_ge (o + j) q.o with h2 | h2
      · exact .inl h2
      · right
        rcases Nat.lt_or_ge (o + j) (q.o + q.x) with h3 | h3
        · exfalso
          have := h.dd i x q a1 a2 hox (o + j - q.o) (by omega)
          rw [← hb, show q.o + (o + j - q.o) = o + j by omega] at this
          exact this h1
        · exact h3
    · simp at hb ⊢
      rcases hrg x' (List.mem_of_getElem? b1) with ho' | ho'
      · unfold Rg.wid at hj
        rw [ho'] at hj
        simp only [cond_true] at hj
        have h4 := h.dd i' x' q' b1 b2 ho' j hj
        rw [hb] at h4
        rcases Nat.lt_or_ge (q'.o + j) o with h2 | h2
        · exact .inl h2
        · right
          rcases Nat.lt_or_ge (q'.o + j) (o + x0) with h3 | h3
          · exfalso
            have h1 := hD (q'.o + j - o) (by omega)
            rw [show o + (q'.o + j - o) = q'.o + j by omega] at h1
            exact h4 h1
          · exact h3
      · unfold Rg.wid at hj
        rw [ho'] at hj
        cases hxo : x'.own with
        | false => rw [hxo] at hj; simp at hj
        | true =>
          rw [hxo] at hj
          simp only [cond_true] at hj
          have h4 := h.dd i' x' q' b1 b2 hxo j hj
          rw [hb] at h4
          rcases Nat.lt_or_ge (q'.o + j) o with h2 | h2
          · exact .inl h2
          · right
            rcases Nat.lt_or_ge (q'.o + j) (o + x0) with h3 | h3
            · exfalso
              have h1 := hD (q'.o + j - o) (by omega)
              rw [show o + (q'.o + j - o) = q'.o + j by omega] at h1
              exact h4 h1
            · exact h3
    · omega
  · intro i x q ob hx hq hxo
    rcases get_snoc h.len hx hq with ⟨a, b⟩ | ⟨_, rfl, rfl⟩
    · obtain ⟨⟨o', k1, k2⟩, k3⟩ := h.obj i x q ob a b hxo
      exact ⟨⟨o', Ob.den_mono hle ob k1, k2⟩, k3.1, fun o hd => k3.2 o (hD' _ _ hd).1⟩
    · simp at hxo
  · intro i i' x x' q q' hx hq hx' hq' hox hox' hne
    rcases get_snoc h.len hx hq with ⟨a1, a2⟩ | ⟨a0, rfl, rfl⟩
    · rcases get_snoc h.len hx' hq' with ⟨b1, b2⟩ | ⟨b0, rfl, rfl⟩
      · exact h.odisj i i' x x' q q' a1 a2 b1 b2 hox hox' hne
      · simp at hox'
    · simp at hox
  · intro i x q hx hq hox
    rcases get_snoc h.len hx hq with ⟨a, b⟩ | ⟨_, rfl, rfl⟩
    · exact h.imd i x q a b hox
    · exact him
  · intro i x q hx hq hox j hj hd
    rcases get_snoc h.len hx hq with ⟨a, b⟩ | ⟨_, rfl, rfl⟩
    · exact h.dd i x q a b hox j hj (hD' _ _ hd).1
    · exact (hD' _ _ hd).2 ⟨rfl, by simp, by simp at hj ⊢; omega⟩
  · intro i x q hx hq hox
    rcases get_snoc h.len hx hq with ⟨a, b⟩ | ⟨_, rfl, rfl⟩
    · exact h.foot i x q a b hox
    · exact hO

/-- cells of which the assertion told become a region of one's own; the regions' numbers are named -/
theorem X.focusX {E : Ctx} {k : List It} {s : St} (b o : Nat) (cs : List SV) (x0 : Nat) (hx0 : cs.length ≤ x0) (D' : Nat → Nat → Prop) (R' : World → Prop)
    (hcs : ∀ w, E.R w → ∀ (j : Nat) (c : SV), cs[j]? = some c → ∃ v, c.den [] = some v ∧ w.cell? ⟨b, o + j, none⟩ = some v) (hfz : ∀ w, E.R w → ∀ j, j < x0 → (w.cell? ⟨b, o + j, none⟩).isSome = true ∧ w.frozen? ⟨b, o + j, none⟩ = false) (hne : 0 < x0)
    (hD : ∀ j, j < x0 → E.D b (o + j)) (hD' : ∀ k i, D' k i → E.D k i ∧ ¬ (k = b ∧ o ≤ i ∧ i < o + x0)) (hO : E.W.heap.size ≤ b ∨ ∀ j, j < x0 → E.O b (o + j)) (him : ∀ j, j < x0 → E.im b (o + j) = none)
    (hrg : ∀ g ∈ s.rg, g.own = true ∨ g.cells = []) (hl : Loc D' R') (hR : ∀ w, E.R w → R' w)
    (h : ∀ N : Nums, E.N0.le N → N.length = s.rg.length → X { E with D := D', R := R', N0 := N ++ [⟨b, o, x0⟩] } k ⟨s.fr, s.rg ++ [⟨true, cs, none⟩]⟩) : X E k s := by
  refine X.conv fun N a w hN hf hS => ?_
  refine ⟨{ E with D := D', R := R', N0 := N ++ [⟨b, o, x0⟩] }, ⟨s.fr, s.rg ++ [⟨true, cs, none⟩]⟩, rfl, rfl, rfl, rfl, ⟨_, Nums.le.refl _, hf.mono (Nums.le_append _ _), ?_⟩, h N hN hS.len⟩
  have hc := hcs w hS.res
  have hb : b < w.heap.size := by
    exact (hS.dlt _ _ (hD 0 hne)).lt
  refine hS.focusX hx0 D' R' hb (fun j c hj => ?_) (hfz w hS.res) hD hD' hO him hrg hl (hR w hS.res)
  obtain ⟨v, h1, h2⟩ := hc j c hj
  exact ⟨v, SV.den_mono (N := []) (N' := N) (fun r p h => by simp at h) c h1, h2⟩


/-- memory that stays becomes a region to be looked at -/
theorem Sat.see {E : Env} {N : Nums} {rg : List Rg} {w : World} (h : Sat E N rg w) {b o : Nat} {cs : List SV} (hb : b < w.heap.size) (hcs : ∀ (j : Nat) (c : SV), cs[j]? = some c → ∃ v, c.den N = some v ∧ E.im b (o + j) = some v) :
    Sat E (N ++ [⟨b, o, 0⟩]) (rg ++ [⟨false, cs, none⟩]) w := by
  have hle : N.le (N ++ [⟨b, o, 0⟩]) := Nums.le_append _ _
  refine ⟨by simp [h.len], ?_, ?_, ?_, ?_, ?_, ?_, ?_, h.imm, ?_, ?_, h.dlt, h.loc, h.res, h.chg, ?_⟩
  · intro i q hq
    rcases Nat.lt_or_ge i N.length with hi | hi
    · rw [List.getElem?_append_left hi] at hq; exact h.lt i q hq
    · rw [List.getElem?_append_right hi] at hq
      have hz : i - N.length = 0 := by
        have := (List.getElem?_eq_some_iff.1 hq).1
        simp at this; omega
      rw [hz] at hq; simp at hq; subst hq; exact hb
  · intro i x q hx hq j d hj
    rcases get_snoc h.len hx hq with ⟨a, b⟩ | ⟨_, rfl, rfl⟩
    · obtain ⟨v, h1, h2⟩ := h.cell i x q a b j d hj
      exact ⟨v, SV.den_mono hle d h1, h2⟩
    · obtain ⟨v, h1, h2⟩ := hcs j d hj
      exact ⟨v, SV.den_mono hle d h1, h.imm _ _ _ h2⟩
  · intro i x q hx hq hox
    rcases get_snoc h.len hx hq with ⟨a, b⟩ | ⟨_, rfl, rfl⟩
    · exact h.ext i x q a b hox
    · simp at hox
  · intro i x q hx hq hox
    rcases get_snoc h.len hx hq with ⟨a, b⟩ | ⟨_, rfl, rfl⟩
    · exact h.room i x q a b hox
    · simp at hox
  · intro i i' x x' q q' hx hq hx' hq' hox hne j hj hb
    rcases get_snoc h.len hx hq with ⟨a1, a2⟩ | ⟨a0, rfl, rfl⟩
    · rcases get_snoc h.len hx' hq' with ⟨b1, b2⟩ | ⟨b0, rfl, rfl⟩
      · exact h.disj i i' x x' q q' a1 a2 b1 b2 hox hne j hj hb
      · simp [Rg.wid] at hj hb ⊢
        obtain ⟨c, hc⟩ : ∃ c, cs[j]? = some c := ⟨_, List.getElem?_eq_getElem hj⟩
        obtain ⟨v, _, h2⟩ := hcs j c hc
        rcases Nat.lt_or_ge (o + j) q.o with h3 | h3
        · exact .inl h3
        · right
          rcases Nat.lt_or_ge (o + j) (q.o + q.x) with h4 | h4
          · exfalso
            have := h.imd i x q a1 a2 hox (o + j - q.o) (by omega)
            rw [← hb, show q.o + (o + j - q.o) = o + j by omega, h2] at this
            cases this
          · exact h4
    · simp at hox
  · intro i x q ob hx hq hxo
    rcases get_snoc h.len hx hq with ⟨a, b⟩ | ⟨_, rfl, rfl⟩
    · obtain ⟨⟨o', k1, k2⟩, k3⟩ := h.obj i x q ob a b hxo
      exact ⟨⟨o', Ob.den_mono hle ob k1, k2⟩, k3⟩
    · simp at hxo
  · intro i i' x x' q q' hx hq hx' hq' hox hox' hne
    rcases get_snoc h.len hx hq with ⟨a1, a2⟩ | ⟨a0, rfl, rfl⟩
    · rcases get_snoc h.len hx' hq' with ⟨b1, b2⟩ | ⟨b0, rfl, rfl⟩
      · exact h.odisj i i' x x' q q' a1 a2 b1 b2 hox hox' hne
      · simp at hox'
    · simp at hox
  · intro i x q hx hq hox
    rcases get_snoc h.len hx hq with ⟨a, b⟩ | ⟨_, rfl, rfl⟩
    · exact h.imd i x q a b hox
    · simp at hox
  · intro i x q hx hq hox j hj hd
    rcases get_snoc h.len hx hq with ⟨a, b⟩ | ⟨_, rfl, rfl⟩
    · exact h.dd i x q a b hox j hj hd
    · simp at hox
  · intro i x q hx hq hox
    rcases get_snoc h.len hx hq with ⟨a, b⟩ | ⟨_, rfl, rfl⟩
    · exact h.foot i x q a b hox
    · simp at hox

theorem X.see {E : Ctx} {k : List It} {s : St} (b o : Nat) (cs : List SV) (hcs : ∀ (j : Nat) (c : SV), cs[j]? = some c → ∃ v, c.den [] = some v ∧ E.im b (o + j) = some v) (hne : 0 < cs.length)
    (h : ∀ N : Nums, E.N0.le N → N.length = s.rg.length → X { E with N0 := N ++ [⟨b, o, 0⟩] } k ⟨s.fr, s.rg ++ [⟨false, cs, none⟩]⟩) : X E k s := by
  refine X.conv fun N a w hN hf hS => ?_
  refine ⟨{ E with N0 := N ++ [⟨b, o, 0⟩] }, ⟨s.fr, s.rg ++ [⟨false, cs, none⟩]⟩, rfl, rfl, rfl, rfl, ⟨_, Nums.le.refl _, hf.mono (Nums.le_append _ _), ?_⟩, h N hN hS.len⟩
  have hb : b < w.heap.size := by
    obtain ⟨c0, hc0⟩ : ∃ c, cs[0]? = some c := ⟨_, List.getElem?_eq_getElem hne⟩
    obtain ⟨v, _, hv⟩ := hcs 0 c0 hc0
    exact World.block_lt_of_cell? _ _ (hS.imm _ _ _ hv)
  refine Sat.see (E := E.toEnv) hS hb fun j c hj => ?_
  obtain ⟨v, h1, h2⟩ := hcs j c hj
  exact ⟨v, SV.den_mono (N := []) (N' := N) (fun r p h => by simp at h) c h1, h2⟩

/-! ### operations of which the executor can't tell by itself what they come to -/
/-- operation i turns the state s into s1, as the executor has it -/
structure OpEq (T : Tab) (n : Nat) (all : Array Oper) (i : Nat) (s s1 : St) : Prop where
  eq : opE T n all i s = some s1

/-- one operation, by such an equation -/
theorem X.opEq {T : Tab} (hT : TabOk E.P T) {s1 : St} (h : OpEq T E.n all i s s1) (hk : X E (.ops all rest :: k) s1) : X E (.ops all (i :: rest) :: k) s := by
  intro N a w hN hfr hS
  show wpOps _ _ _ _ _ _
  have hoi : ∃ o, all[i]? = some o := by
    cases ho : all[i]? with
    | some o => exact ⟨o, rfl⟩
    | none => have := h.eq; unfold opE at this; rw [nth_eq] at this; simp [ho] at this
  obtain ⟨o, ho⟩ := hoi
  obtain ⟨hw, N', x, w', h1, h2, h3, h4⟩ := opE_sound hT ho h.eq hfr hS
  simp only [wpOps, ho, hw, if_true]
  exact .inl (wp_of_yields h2 (hk N' _ w' (hN.trans h1) h3 h4))

/-- .. in a region that draws its order -/
def eqCall (T : Tab) (n : Nat) (all : Array Oper) (j : Nat) (g : St → Option St) : CallerP := fun i s => bif Nat.beq i j then
    match g s with
    | some s1 => some (s1, (match stR s.fr all i with | some r => [r] | none => []), OpEq T n all i s s1)
    | none => none
  else none

theorem eqCall_ok {P : Program} {T : Tab} (hT : TabOk P T) {n : Nat} {all : Array Oper} {j : Nat} {g : St → Option St} {Rr : World → Prop} {im : Nat → Nat → Option Value} : CallerPOk P n all Rr im (eqCall T n all j g) := by
  intro i s s' ws p hc hp
  unfold eqCall at hc
  obtain ⟨hi, hc⟩ := bif_none hc
  split at hc
  · rename_i s1 hg
    simp only [Option.some.injEq, Prod.mk.injEq] at hc
    obtain ⟨rfl, rfl, rfl⟩ := hc
    refine And.intro (opE_keeps hp.eq) ?_
    have hoi : ∃ o, all[i]? = some o := by
      cases ho : all[i]? with
      | some o => exact ⟨o, rfl⟩
      | none => have := hp.eq; unfold opE at this; rw [nth_eq] at this; simp [ho] at this
    obtain ⟨o, ho⟩ := hoi
    refine ⟨o, ho, fun E N a w hP hn _ _ hf hS => ?_⟩
    subst hP; subst hn
    obtain ⟨hw, N', x, w', h1, h2, h3, h4⟩ := opE_sound hT ho hp.eq hf hS
    exact ⟨hw, fun K Q hK => wp_of_yields h2 (hK N' x w' h1 h3 h4)⟩
  · cases hc

end

/-! ### 'append' -/
theorem opE_append {T : Tab} {n : Nat} {all : Array Oper} {i : Nat} {s : St} {o : Oper} {x y : Operand} {ts tx e m : Nat} {ti te : TI} {sx sy r : SV} {new : List SV} {rg' : List Rg} {f : Fr} (ho : nth all.toList i = some o) (hg : sure all s.fr o = true)
    (hop : o.op = .call { callee := .builtin .append, args := #[x, y], argTypes := #[ts, tx] }) (hx : ev s.fr x = some sx) (hy : ev s.fr y = some sy) (hti : lookT T ts = some ti) (hk : ti.kind = .slice e) (hte : lookT T e = some te)
    (hsrc : appSrc T s.rg te sy tx = some (new, m)) (happ : appV s.rg te sx new m = some (r, rg')) (hp : putO n s.fr o.dst (.val r) = some f) : OpEq T n all i s ⟨f, rg'⟩ := by
  refine ⟨?_⟩
  unfold opE
  simp only [ho, hg, cond_true, hop, stepE, hx, hy, hti, hk, hte, hsrc, happ, hp]

theorem appOk_ok {te : TI} {new : List SV} {n m : Nat} (h0 : 0 < te.size) (h1 : te.zero.length = te.size) (h2 : new.length = m * te.size) (h3 : new.all SV.one = true) (h4 : (2 * (n + m) + 256) * te.bytes ≤ 281474976710656) (h5 : n + m ≤ 1099511627776) : appV.appOk te new n m = true := by
  unfold appV.appOk
  simp [h0, h1, h2, h3, h4, h5]

/-- onto a row of one's own, with hidden capacity -/
theorem appV_hid {rg : List Rg} {te : TI} {r n m : Nat} {cs new : List SV} (hr : nth rg r = some ⟨true, cs, none⟩) (hcs : cs.length = n * te.size) (hm : m ≠ 0) (hok : appV.appOk te new n m = true) :
    appV rg te (.osl r 0 n te.size none) new m = some (.osl rg.length 0 (n + m) te.size none, rg.set r ⟨false, [], none⟩ ++ [⟨true, cs ++ new, none⟩]) := by
  have e1 : Nat.beq m 0 = false := by cases h : Nat.beq m 0 with | false => rfl | true => exact absurd (Nat.eq_of_beq_eq_true h) hm
  have e2 : Nat.ble (0 + n * te.size) cs.length = true := by rw [hcs]; exact Nat.ble_eq_true_of_le (by omega)
  have e3 : Nat.beq te.size te.size = true := Nat.beq_refl _
  simp only [appV, hr, hok, e1, e2, e3, Bool.and_self, cond_true, cond_false, List.drop_zero]
  rw [← hcs, List.take_length]

/-- onto nil -/
theorem appV_nil {rg : List Rg} {te : TI} {m : Nat} {new : List SV} (hm : m ≠ 0) (hok : appV.appOk te new 0 m = true) :
    appV rg te (.raw (.slice none 0 0)) new m = some (.osl rg.length 0 m te.size none, rg ++ [⟨true, new, none⟩]) := by
  have e1 : Nat.beq m 0 = false := by cases h : Nat.beq m 0 with | false => rfl | true => exact absurd (Nat.eq_of_beq_eq_true h) hm
  simp only [appV, hok, e1, cond_true, cond_false]

/-- onto an empty row without room -/
theorem appV_new {rg : List Rg} {te : TI} {r m : Nat} {g : Rg} {new : List SV} (hr : nth rg r = some g) (hm : m ≠ 0) (hok : appV.appOk te new 0 m = true) :
    appV rg te (.osl r 0 0 te.size (some 0)) new m = some (.osl rg.length 0 m te.size none, rg ++ [⟨true, new, none⟩]) := by
  have e1 : Nat.ble (0 + m) 0 = false := by
    cases h : Nat.ble (0 + m) 0 with
    | false => rfl
    | true => have := Nat.le_of_ble_eq_true h; omega
  have e2 : Nat.ble (0 + 0 * te.size) g.cells.length = true := Nat.ble_eq_true_of_le (by omega)
  have e3 : Nat.beq te.size te.size = true := Nat.beq_refl _
  simp only [appV, hr, hok, e1, e2, e3, Bool.and_self, cond_true, cond_false]
  simp

/-- a whole row is what is appended -/
theorem appSrc_row {T : Tab} {rg : List Rg} {te ti : TI} {tx e r n : Nat} {g : Rg} {k : Option Nat} (ht : lookT T tx = some ti) (hk : ti.kind = .slice e) (hr : nth rg r = some g) (hcs : g.cells.length = n * te.size) : appSrc T rg te (.osl r 0 n te.size k) tx = some (g.cells, n) := by
  have e2 : Nat.ble (0 + n * te.size) g.cells.length = true := by rw [hcs]; exact Nat.ble_eq_true_of_le (by omega)
  have e3 : Nat.beq te.size te.size = true := Nat.beq_refl _
  simp only [appSrc, ht, hk, srcV, hr, e2, e3, Bool.and_self, cond_true, List.drop_zero]
  rw [← hcs, List.take_length]

/-! ### what lies elsewhere -/
theorem ro_not {p : Num} {cs : List SV} {k o : Nat} : ¬ InR [p] [⟨false, cs, none⟩] k o := by
  rintro ⟨r, g, q, hg, _, ho, _⟩
  cases r with
  | zero => simp at hg; subst hg; cases ho
  | succ r => simp at hg

theorem else0 {w : World} {k o : Nat} : elsewhere [] [] w k o = w.cell? ⟨k, o, none⟩ := by
  unfold elsewhere
  rw [if_neg]
  rintro ⟨r, g, p, hg, _⟩
  simp at hg

end Go.Eng
