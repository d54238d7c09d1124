/- The symbolic executor, part 4: what part 3 computes is what the model does. -/
import Derived.Test.YtcfghkiokdbhjaaEng3

namespace Go.Eng

section
variable {E : Env} {N : Nums} {rg : List Rg} {w : World} {T : Tab}

theorem struct_field {P : Program} {t : Nat} {fs : List (Nat × Nat × Bool)} (h : (TK.struct fs).okT P t) {f o n : Nat} {a : Bool} (hf : nth fs f = some (o, n, a)) :
    ∃ fields fd, P.underlying t = some (.struct fields) ∧ fields[f]? = some fd ∧ fd.offset = o ∧ (∀ w, (sizeOf fd.type).run P w = .ok n w) ∧ (∀ w, (isAgg fd.type).run P w = .ok a w) := by
  obtain ⟨fields, h1, rfl, h2⟩ := h
  rw [nth_eq, List.getElem?_map] at hf
  obtain ⟨fd, hfd, he⟩ := Option.map_eq_some_iff.1 hf
  simp only [Prod.mk.injEq] at he
  obtain ⟨rfl, rfl, rfl⟩ := he
  obtain ⟨k1, k2⟩ := h2 fd (List.mem_of_getElem? hfd)
  obtain ⟨i, hi⟩ := Option.isSome_iff_exists.1 k1
  refine ⟨fields, fd, h1, by simpa using hfd, rfl, fun w => ?_, fun w => run_isAgg k2 w⟩
  rw [run_sizeOf hi]
  simp [Program.cellsOf, hi]

theorem denL_take_drop {l : List SV} {m : List Value} (h : SV.denL N l = some m) (c n : Nat) : SV.denL N ((l.drop c).take n) = some ((m.drop c).take n) := by
  obtain ⟨h1, h2⟩ := SV.denL_get _ h
  obtain ⟨q, hq⟩ := SV.denL_of (N := N) ((l.drop c).take n) (fun j d hj => by
    rw [List.getElem?_take] at hj
    split at hj
    · rw [List.getElem?_drop] at hj
      obtain ⟨v, hv, _⟩ := h2 (c + j) d hj
      exact ⟨v, hv⟩
    · simp at hj)
  obtain ⟨q1, q2⟩ := SV.denL_get _ hq
  rw [hq]
  congr 1
  apply List.ext_getElem?
  intro j
  by_cases hj : j < ((l.drop c).take n).length
  · obtain ⟨d, hd⟩ : ∃ d, ((l.drop c).take n)[j]? = some d := ⟨_, List.getElem?_eq_getElem hj⟩
    obtain ⟨v, hv1, hv2⟩ := q2 j d hd
    rw [List.getElem?_take] at hd
    split at hd
    · rename_i hjn
      rw [List.getElem?_drop] at hd
      obtain ⟨v', hv1', hv2'⟩ := h2 (c + j) d hd
      rw [hv1] at hv1'; cases hv1'
      rw [hv2, List.getElem?_take, if_pos hjn, List.getElem?_drop, hv2']
    · simp at hd
  · rw [List.getElem?_eq_none (by omega), List.getElem?_eq_none]
    simp at hj ⊢; omega

theorem part_sound {P : Program} {t : Nat} {agg : Bool} {n : Nat} {cs : List SV} {l : List Value} {off : Nat} {r : SV} (hs : (sizeOf t).run P w = .ok n w) (ha : (isAgg t).run P w = .ok agg w)
    (hl : SV.denL N cs = some l) (h : partV agg cs off n = some r) : ∃ v, r.den N = some v ∧ (part t l.toArray off).run P w = .ok v w := by
  unfold partV at h
  obtain ⟨hlen, hget⟩ := SV.denL_get _ hl
  cases hb : Nat.ble (off + n) cs.length with
  | false => simp [hb] at h
  | true =>
    have hle := Nat.le_of_ble_eq_true hb
    simp only [hb, cond_true] at h
    cases agg with
    | true =>
      simp only [cond_true, Option.some.injEq] at h; subst h
      refine ⟨.agg ((l.drop off).take n).toArray, by simp [SV.den, denL_take_drop hl], ?_⟩
      simp only [part, Sem.run_bind, ha, Result.andThen, if_true, hs, Sem.run_pure]
      congr 2
      apply Array.ext'
      simp
    | false =>
      simp only [cond_false] at h
      rw [nth_eq] at h
      obtain ⟨v, h1, h2⟩ := hget off r h
      refine ⟨v, h1, ?_⟩
      simp only [part, Sem.run_bind, ha, Result.andThen, Bool.false_eq_true, if_false]
      simp [h2]

theorem loadV_sound {P : Program} (hT : Tab.ok P T) (h : Vis N rg w) {t : Nat} {x r : SV} {a : Value} (hx : x.den N = some a) (hl : loadV T rg t x = some r) :
    ∃ v, r.den N = some v ∧ (Instr.loadAt t a).run P w = .ok v w := by
  cases x <;> simp only [loadV] at hl <;> try (simp at hl; done)
  rename_i q c
  cases ht : lookT T t with
  | none => simp [ht] at hl
  | some ti =>
    cases hg : nth rg q with
    | none => simp [ht, hg] at hl
    | some g =>
      have ok := hT t ti ht
      rw [nth_eq] at hg
      simp only [ht, nth_eq, hg] at hl
      cases hagg : ti.agg with
      | true =>
        simp only [hagg, cond_true] at hl
        cases hb : Nat.ble (c + ti.size) g.cells.length with
        | false => simp [hb] at hl
        | true =>
          simp only [hb, cond_true, Option.some.injEq] at hl; subst hl
          obtain ⟨p, l, hp, hd, hlen, hrun⟩ := h.load (P := P) hg (Nat.le_of_ble_eq_true hb)
          simp only [SV.den, hp, Option.some.injEq] at hx; subst hx
          refine ⟨.agg l.toArray, by simp [SV.den, hd], ?_⟩
          simp only [Instr.loadAt, Instr.sureAddr, loadVar, Sem.run_bind, Sem.run_pure, Result.andThen, ok.agg, hagg, if_true, ok.size, hrun]
      | false =>
        simp only [hagg, cond_false] at hl
        obtain ⟨p, v, hp, hd, hw⟩ := h.load1 hg hl
        simp only [SV.den, hp, Option.some.injEq] at hx; subst hx
        refine ⟨v, hd, ?_⟩
        simp only [Instr.loadAt, Instr.sureAddr, loadVar, Sem.run_bind, Sem.run_pure, Result.andThen, ok.agg, hagg, Bool.false_eq_true, if_false]
        simp [hw]

theorem fieldAddrV_sound {P : Program} (hT : Tab.ok P T) {t f : Nat} {x r : SV} {a : Value} (hx : x.den N = some a) (h : fieldAddrV T t x f = some r) :
    ∃ v, r.den N = some v ∧ (Instr.fieldAt t a f).run P w = .ok v w := by
  unfold fieldAddrV at h
  cases ht : lookT T t with
  | none => simp [ht] at h
  | some ti =>
    have ok := (hT t ti ht).kind
    simp only [ht] at h
    cases hk : ti.kind <;> simp only [hk] at h <;> try (simp at h; done)
    rename_i fs
    rw [hk] at ok
    cases hf : nth fs f with
    | none => simp [hf] at h
    | some q =>
      obtain ⟨o, n, ag⟩ := q
      simp only [hf] at h
      cases hn : Nat.beq n 0 with
      | true => simp [hn] at h
      | false =>
        simp only [hn, cond_false] at h
        have hn0 : n ≠ 0 := fun e => by subst e; simp at hn
        obtain ⟨fields, fd, h1, h2, rfl, h4, h5⟩ := struct_field ok hf
        have main : ∀ k y, (Instr.fieldAt t (.pointer (some ⟨k, y, none⟩)) f).run P w = .ok (.pointer (some ⟨k, y + fd.offset, none⟩)) w := by
          intro k y
          simp [Instr.fieldAt, run_underlying h1, h2, Instr.sureAddr, fieldPlace, h4, hn0, Result.andThen, addr_add]
        cases x <;> simp only at h <;> try (simp at h; done)
        · rename_i q c
          simp only [Option.some.injEq] at h; subst h
          simp only [SV.den] at hx
          cases hp : N[q]? with
          | none => simp [hp] at hx
          | some p =>
            simp only [hp, Option.some.injEq] at hx; subst hx
            exact ⟨_, by simp only [SV.den, hp]; rfl, by rw [main]; simp [Nat.add_assoc]⟩
        · rename_i k y c
          simp only [Option.some.injEq] at h; subst h
          simp only [SV.den, Option.some.injEq] at hx; subst hx
          exact ⟨_, by simp only [SV.den]; rfl, by rw [main]; simp [Nat.add_assoc]⟩

theorem indexAddrV_sound {P : Program} (hT : Tab.ok P T) {t : Nat} {x i r : SV} {a b : Value} (hx : x.den N = some a) (hi : i.den N = some b) (h : indexAddrV T t x i = some r) :
    ∃ v, r.den N = some v ∧ (Instr.indexAt t a b).run P w = .ok v w := by
  unfold indexAddrV at h
  split at h
  · rename_i k z
    split at h
    · rename_i ti ht
      have ok := (hT t ti ht).kind
      split at h
      · rename_i n e hk
        rw [hk] at ok
        split at h
        · rename_i te hte
          have oke := hT e te hte
          cases hz : (decide (0 ≤ z) && decide (z < n)) with
          | false => rw [hz] at h; simp at h
          | true =>
            rw [hz] at h
            simp only [cond_true] at h
            simp only [Bool.and_eq_true, decide_eq_true_eq] at hz
            simp only [SV.den, SI.den, Option.some.injEq] at hi; subst hi
            have ok' : P.underlying t = some (.array n e) := ok
            have main : ∀ k' y, (Instr.indexAt t (.pointer (some ⟨k', y, none⟩)) (.int k z)).run P w = .ok (.pointer (some ⟨k', y + z.toNat * te.size, none⟩)) w := by
              intro k' y
              simp [Instr.indexAt, asIntOf, run_underlying ok', Instr.sureAddr, Result.andThen, hz, oke.size, addr_add]
            cases x <;> simp only at h <;> try (simp at h; done)
            · rename_i q c
              simp only [Option.some.injEq] at h; subst h
              simp only [SV.den] at hx
              cases hp : N[q]? with
              | none => simp [hp] at hx
              | some p =>
                simp only [hp, Option.some.injEq] at hx; subst hx
                exact ⟨_, by simp only [SV.den, hp]; rfl, by rw [main]; simp [Nat.add_assoc]⟩
            · rename_i k2 y c
              simp only [Option.some.injEq] at h; subst h
              simp only [SV.den, Option.some.injEq] at hx; subst hx
              exact ⟨_, by simp only [SV.den]; rfl, by rw [main]; simp [Nat.add_assoc]⟩
        · cases h
      · cases h
    · cases h
  · cases h

theorem fieldV_sound {P : Program} (hT : Tab.ok P T) {t f : Nat} {x r : SV} {a : Value} (hx : x.den N = some a) (h : fieldV T t x f = some r) :
    ∃ v, r.den N = some v ∧ (Instr.field t a f).run P w = .ok v w := by
  unfold fieldV at h
  split at h
  · rename_i ti cs ht
    have ok := (hT t ti ht).kind
    split at h
    · rename_i fs hk
      rw [hk] at ok
      split at h
      · rename_i o n ag hf
        obtain ⟨fields, fd, h1, h2, rfl, h4, h5⟩ := struct_field ok hf
        simp only [SV.den] at hx
        cases hl : SV.denL N cs with
        | none => simp [hl] at hx
        | some l =>
          simp only [hl, Option.some.injEq] at hx; subst hx
          obtain ⟨v, hv, hrun⟩ := part_sound (P := P) (w := w) (h4 w) (h5 w) hl h
          refine ⟨v, hv, ?_⟩
          simp [Instr.field, run_underlying h1, h2, asAgg, Result.andThen, hrun]
      · cases h
    · cases h
  · cases h

theorem indexV_sound {P : Program} (hT : Tab.ok P T) {t : Nat} {x i r : SV} {a b : Value} (hx : x.den N = some a) (hi : i.den N = some b) (h : indexV T t x i = some r) :
    ∃ v, r.den N = some v ∧ (Instr.index t a b).run P w = .ok v w := by
  unfold indexV at h
  split at h
  · rename_i k z cs
    split at h
    · rename_i ti ht
      have ok := (hT t ti ht).kind
      split at h
      · rename_i n e hk
        rw [hk] at ok
        have ok' : P.underlying t = some (.array n e) := ok
        split at h
        · rename_i te hte
          have oke := hT e te hte
          cases hz : (decide (0 ≤ z) && decide (z < n)) with
          | false => rw [hz] at h; simp at h
          | true =>
            rw [hz] at h
            simp only [cond_true] at h
            simp only [Bool.and_eq_true, decide_eq_true_eq] at hz
            simp only [SV.den, SI.den, Option.some.injEq] at hi hx; subst hi
            cases hl : SV.denL N cs with
            | none => simp [hl] at hx
            | some l =>
              simp only [hl, Option.some.injEq] at hx; subst hx
              obtain ⟨v, hv, hrun⟩ := part_sound (P := P) (w := w) (oke.size w) (oke.agg w) hl h
              refine ⟨v, hv, ?_⟩
              simp [Instr.index, asIntOf, run_underlying ok', Result.andThen, hz, oke.size, hrun]
        · cases h
      · cases h
    · cases h
  · cases h

theorem extractV_sound {P : Program} {i : Nat} {x r : SV} {a : Value} (hx : x.den N = some a) (h : extractV x i = some r) :
    ∃ v, r.den N = some v ∧ (Instr.extract a i).run P w = .ok v w := by
  unfold extractV at h
  split at h
  · rename_i cs
    simp only [SV.den] at hx
    cases hl : SV.denL N cs with
    | none => simp [hl] at hx
    | some l =>
      simp only [hl, Option.some.injEq] at hx; subst hx
      rw [nth_eq] at h
      obtain ⟨_, hget⟩ := SV.denL_get _ hl
      obtain ⟨v, h1, h2⟩ := hget i r h
      exact ⟨v, h1, by simp [Instr.extract, h2]⟩
  · cases h

theorem nilCheckV_sound {P : Program} {ρ : Operand → Value} {o : Oper} {y : Operand} (ho : o.op = .nilCheck y) {x r : SV} (hx : x.den N = some (ρ y)) (h : nilCheckV x = some r) :
    ∃ v, r.den N = some v ∧ (execOp ρ o).run P w = .ok (.value v) w := by
  unfold nilCheckV at h
  split at h <;> simp only [Option.some.injEq, reduceCtorEq] at h
  · rename_i q c
    subst h
    refine ⟨_, hx, ?_⟩
    simp only [SV.den] at hx
    cases hp : N[q]? with
    | none => simp [hp] at hx
    | some p =>
      simp only [hp, Option.some.injEq] at hx
      simp [execOp, ho, ← hx]
  · subst h
    refine ⟨_, hx, ?_⟩
    simp only [SV.den, Option.some.injEq] at hx
    simp [execOp, ho, ← hx]
  · subst h
    refine ⟨_, hx, ?_⟩
    simp only [SV.den, one?, if_true, Option.some.injEq] at hx
    simp [execOp, ho, ← hx]

end
end Go.Eng
