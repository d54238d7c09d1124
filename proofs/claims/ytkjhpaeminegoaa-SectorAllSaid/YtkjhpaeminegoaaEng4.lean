/- The symbolic executor, part 4: what part 3 computes is what the model does. -/
import Derived.Test.YtkjhpaeminegoaaEng3

namespace Go.Eng

section
variable {E : Env} {N : Nums} {rg : List Rg} {w : World} {T : Tab}

theorem struct_field {P : Program} {t : Nat} {fs : List (Nat × Nat × Bool)} (h : (TK.struct fs).okT P t) {f o n : Nat} {a : Bool} (hf : nth fs f = some (o, n, a)) :
    ∃ fields fd, P.underlying t = some (.struct fields) ∧ fields[f]? = some fd ∧ fd.offset = o ∧ (∀ w, (sizeOf fd.type).run P w = .ok n w) ∧ (∀ w, (isAgg fd.type).run P w = .ok a w) := by
  obtain ⟨fields, h1, rfl, h2⟩ := h
  rw [nth_eq, List.getElem?_map] at hf
  obtain ⟨fd, hfd, he⟩ := Option.map_eq_some_iff.1 hf
  simp only [Prod.mk.injEq] at he
  obtain ⟨rfl, rfl, rfl⟩ := he
  obtain ⟨k1, k2⟩ := h2 fd (List.mem_of_getElem? hfd)
  obtain ⟨i, hi⟩ := Option.isSome_iff_exists.1 k1
  refine ⟨fields, fd, h1, by simpa using hfd, rfl, fun w => ?_, fun w => run_isAgg k2 w⟩
  rw [run_sizeOf hi]
  simp [Program.cellsOf, hi]

theorem denL_take_drop {l : List SV} {m : List Value} (h : SV.denL N l = some m) (c n : Nat) : SV.denL N ((l.drop c).take n) = some ((m.drop c).take n) := by
  obtain ⟨h1, h2⟩ := SV.denL_get _ h
  obtain ⟨q, hq⟩ := SV.denL_of (N := N) ((l.drop c).take n) (fun j d hj => by
    rw [List.getElem?_take] at hj
    split at hj
    · rw [List.getElem?_drop] at hj
      obtain ⟨v, hv, _⟩ := h2 (c + j) d hj
      exact ⟨v, hv⟩
    · simp at hj)
  obtain ⟨q1, q2⟩ := SV.denL_get _ hq
  rw [hq]
  congr 1
  apply List.ext_getElem?
  intro j
  by_cases hj : j < ((l.drop c).take n).length
  · obtain ⟨d, hd⟩ : ∃ d, ((l.drop c).take n)[j]? = some d := ⟨_, List.getElem?_eq_getElem hj⟩
    obtain ⟨v, hv1, hv2⟩ := q2 j d hd
    rw [List.getElem?_take] at hd
    split at hd
    · rename_i hjn
      rw [List.getElem?_drop] at hd
      obtain ⟨v', hv1', hv2'⟩ := h2 (c + j) d hd
      rw [hv1] at hv1'; cases hv1'
      rw [hv2, List.getElem?_take, if_pos hjn, List.getElem?_drop, hv2']
    · simp at hd
  · rw [List.getElem?_eq_none (by omega), List.getElem?_eq_none]
    simp at hj ⊢; omega

theorem part_sound {P : Program} {t : Nat} {agg : Bool} {n : Nat} {cs : List SV} {l : List Value} {off : Nat} {r : SV} (hs : (sizeOf t).run P w = .ok n w) (ha : (isAgg t).run P w = .ok agg w)
    (hl : SV.denL N cs = some l) (h : partV agg cs off n = some r) : ∃ v, r.den N = some v ∧ (part t l.toArray off).run P w = .ok v w := by
  unfold partV at h
  obtain ⟨hlen, hget⟩ := SV.denL_get _ hl
  cases hb : Nat.ble (off + n) cs.length with
  | false => simp [hb] at h
  | true =>
    have hle := Nat.le_of_ble_eq_true hb
    simp only [hb, cond_true] at h
    cases agg with
    | true =>
      simp only [cond_true, Option.some.injEq] at h; subst h
      refine ⟨.agg ((l.drop off).take n).toArray, by simp [SV.den, denL_take_drop hl], ?_⟩
      simp only [part, Sem.run_bind, ha, Result.andThen, if_true, hs, Sem.run_pure]
      congr 2
      apply Array.ext'
      simp
    | false =>
      simp only [cond_false] at h
      rw [nth_eq] at h
      obtain ⟨v, h1, h2⟩ := hget off r h
      refine ⟨v, h1, ?_⟩
      simp only [part, Sem.run_bind, ha, Result.andThen, Bool.false_eq_true, if_false]
      simp [h2]

theorem loadV_sound {P : Program} (hT : Tab.ok P T) (h : Vis N rg w) {t : Nat} {x r : SV} {a : Value} (hx : x.den N = some a) (hl : loadV T rg t x = some r) :
    ∃ v, r.den N = some v ∧ (Instr.loadAt t a).run P w = .ok v w := by
  cases x <;> simp only [loadV] at hl <;> try (simp at hl; done)
  rename_i q c
  cases ht : lookT T t with
  | none => simp [ht] at hl
  | some ti =>
    cases hg : nth rg q with
    | none => simp [ht, hg] at hl
    | some g =>
      have ok := hT t ti ht
      rw [nth_eq] at hg
      simp only [ht, nth_eq, hg] at hl
      cases hagg : ti.agg with
      | true =>
        simp only [hagg, cond_true] at hl
        cases hb : Nat.ble (c + ti.size) g.cells.length with
        | false => simp [hb] at hl
        | true =>
          simp only [hb, cond_true, Option.some.injEq] at hl; subst hl
          obtain ⟨p, l, hp, hd, hlen, hrun⟩ := h.load (P := P) hg (Nat.le_of_ble_eq_true hb)
          simp only [SV.den, hp, Option.some.injEq] at hx; subst hx
          refine ⟨.agg l.toArray, by simp [SV.den, hd], ?_⟩
          simp only [Instr.loadAt, Instr.sureAddr, loadVar, Sem.run_bind, Sem.run_pure, Result.andThen, ok.agg, hagg, if_true, ok.size, hrun]
      | false =>
        simp only [hagg, cond_false] at hl
        obtain ⟨p, v, hp, hd, hw⟩ := h.load1 hg hl
        simp only [SV.den, hp, Option.some.injEq] at hx; subst hx
        refine ⟨v, hd, ?_⟩
        simp only [Instr.loadAt, Instr.sureAddr, loadVar, Sem.run_bind, Sem.run_pure, Result.andThen, ok.agg, hagg, Bool.false_eq_true, if_false]
        simp [hw]

theorem fieldAddrV_sound {P : Program} (hT : Tab.ok P T) {t f : Nat} {x r : SV} {a : Value} (hx : x.den N = some a) (h : fieldAddrV T t x f = some r) :
    ∃ v, r.den N = some v ∧ (Instr.fieldAt t a f).run P w = .ok v w := by
  unfold fieldAddrV at h
  cases ht : lookT T t with
  | none => simp [ht] at h
  | some ti =>
    have ok := (hT t ti ht).kind
    simp only [ht] at h
    cases hk : ti.kind <;> simp only [hk] at h <;> try (simp at h; done)
    rename_i fs
    rw [hk] at ok
    cases hf : nth fs f with
    | none => simp [hf] at h
    | some q =>
      obtain ⟨o, n, ag⟩ := q
      simp only [hf] at h
      cases hn : Nat.beq n 0 with
      | true => simp [hn] at h
      | false =>
        simp only [hn, cond_false] at h
        have hn0 : n ≠ 0 := fun e => by subst e; simp at hn
        obtain ⟨fields, fd, h1, h2, rfl, h4, h5⟩ := struct_field ok hf
        have main : ∀ k y, (Instr.fieldAt t (.pointer (some ⟨k, y, none⟩)) f).run P w = .ok (.pointer (some ⟨k, y + fd.offset, none⟩)) w := by
          intro k y
          simp [Instr.fieldAt, run_underlying h1, h2, Instr.sureAddr, fieldPlace, h4, hn0, Result.andThen, addr_add]
        cases x <;> simp only at h <;> try (simp at h; done)
        · rename_i q c
          simp only [Option.some.injEq] at h; subst h
          simp only [SV.den] at hx
          cases hp : N[q]? with
          | none => simp [hp] at hx
          | some p =>
            simp only [hp, Option.some.injEq] at hx; subst hx
            exact ⟨_, by simp only [SV.den, hp]; rfl, by rw [main]; simp [Nat.add_assoc]⟩
        · rename_i k y c
          simp only [Option.some.injEq] at h; subst h
          simp only [SV.den, Option.some.injEq] at hx; subst hx
          exact ⟨_, by simp only [SV.den]; rfl, by rw [main]; simp [Nat.add_assoc]⟩

theorem indexAddrV_sound {P : Program} (hT : Tab.ok P T) {t : Nat} {x i r : SV} {a b : Value} (hx : x.den N = some a) (hi : i.den N = some b) (h : indexAddrV T t x i = some r) :
    ∃ v, r.den N = some v ∧ (Instr.indexAt t a b).run P w = .ok v w := by
  unfold indexAddrV at h
  split at h
  · rename_i k z
    split at h
    · rename_i ti ht
      have ok := (hT t ti ht).kind
      split at h
      · rename_i n e hk
        rw [hk] at ok
        split at h
        · rename_i te hte
          have oke := hT e te hte
          cases hz : (decide (0 ≤ z) && decide (z < n)) with
          | false => rw [hz] at h; simp at h
          | true =>
            rw [hz] at h
            simp only [cond_true] at h
            simp only [Bool.and_eq_true, decide_eq_true_eq] at hz
            simp only [SV.den, SI.den, Option.some.injEq] at hi; subst hi
            have ok' : P.underlying t = some (.array n e) := ok
            have main : ∀ k' y, (Instr.indexAt t (.pointer (some ⟨k', y, none⟩)) (.int k z)).run P w = .ok (.pointer (some ⟨k', y + z.toNat * te.size, none⟩)) w := by
              intro k' y
              simp [Instr.indexAt, asIntOf, run_underlying ok', Instr.sureAddr, Result.andThen, hz, oke.size, addr_add]
            cases x <;> simp only at h <;> try (simp at h; done)
            · rename_i q c
              simp only [Option.some.injEq] at h; subst h
              simp only [SV.den] at hx
              cases hp : N[q]? with
              | none => simp [hp] at hx
              | some p =>
                simp only [hp, Option.some.injEq] at hx; subst hx
                exact ⟨_, by simp only [SV.den, hp]; rfl, by rw [main]; simp [Nat.add_assoc]⟩
            · rename_i k2 y c
              simp only [Option.some.injEq] at h; subst h
              simp only [SV.den, Option.some.injEq] at hx; subst hx
              exact ⟨_, by simp only [SV.den]; rfl, by rw [main]; simp [Nat.add_assoc]⟩
        · cases h
      · rename_i e hk
        rw [hk] at ok
        split at h
        · rename_i te hte
          have oke := hT e te hte
          split at h
          · rename_i r0 c0 n0 z0 k0
            cases hz : (decide (0 ≤ z) && decide (z < n0)) with
            | false => rw [hz] at h; simp at h
            | true =>
              rw [hz] at h
              simp only [cond_true, Option.some.injEq] at h; subst h
              simp only [Bool.and_eq_true, decide_eq_true_eq] at hz
              simp only [SV.den, SI.den, Option.some.injEq] at hi; subst hi
              have ok' : P.underlying t = some (.slice e) := ok
              simp only [SV.den] at hx
              cases hp : N[r0]? with
              | none => simp [hp] at hx
              | some p =>
                simp only [hp, Option.some.injEq] at hx; subst hx
                refine ⟨_, by simp only [SV.den, hp]; rfl, ?_⟩
                simp [Instr.indexAt, asIntOf, run_underlying ok', Result.andThen, hz, oke.size, addr_add, Nat.add_assoc]
          · cases h
        · cases h
      · cases h
    · cases h
  · cases h

theorem evL0_sound {ρ : Operand → Option SV} {ρ' : Operand → Value} (hρ : ∀ x s, ρ x = some s → s.den N = some (ρ' x)) : ∀ (xs : List Operand) {l : List SV}, evL0 ρ xs = some l → SV.denL N l = some (xs.map ρ')
  | [], l, h => by simp only [evL0, Option.some.injEq] at h; subst h; rfl
  | x :: xs, l, h => by
    simp only [evL0] at h
    split at h
    · rename_i v q hv hq
      simp only [Option.some.injEq] at h; subst h
      simp [SV.denL, hρ _ _ hv, evL0_sound hρ xs hq]
    · cases h

theorem evO_sound {ρ : Operand → Option SV} {ρ' : Operand → Value} (hρ : ∀ x s, ρ x = some s → s.den N = some (ρ' x)) {o : Option Operand} {m : Option Nat} (h : evO ρ o = some m) :
    (o = none ∧ m = none) ∨ ∃ k n, o.map ρ' = some (.int k (n : Nat)) ∧ m = some n := by
  cases o with
  | none => simp only [evO, Option.some.injEq] at h; exact .inl ⟨rfl, h.symm⟩
  | some x =>
    simp only [evO] at h
    split at h
    · rename_i k z hx
      have := hρ _ _ hx
      simp only [SV.den, SI.den, Option.some.injEq] at this
      by_cases hz : 0 ≤ z
      · simp only [hz, decide_true, cond_true, Option.some.injEq] at h; subst h
        refine .inr ⟨k, z.toNat, ?_, rfl⟩
        simp only [Option.map_some, ← this, Int.toNat_of_nonneg hz]
      · simp [hz] at h
    · cases h

theorem run_sliceBound {P : Program} {k : IntKind} {n y : Nat} {code : BoundsCode} (h : n ≤ y) : (Instr.sliceBound (.int k (n : Nat)) y code).run P w = .ok n w := by
  have : (n : Int) ≤ y := by omega
  simp [Instr.sliceBound, asIntOf, this]

theorem run_sliceBounds {P : Program} {ρ' : Operand → Value} {b : Bool} {len cap : Nat} {lo hi mx : Option Operand} {l h m : Option Nat}
    (hl : (lo = none ∧ l = none) ∨ ∃ k n, lo.map ρ' = some (.int k (n : Nat)) ∧ l = some n) (hh : (hi = none ∧ h = none) ∨ ∃ k n, hi.map ρ' = some (.int k (n : Nat)) ∧ h = some n)
    (hm : (mx = none ∧ m = none) ∨ ∃ k n, mx.map ρ' = some (.int k (n : Nat)) ∧ m = some n) (h1 : l.getD 0 ≤ h.getD len) (h2 : h.getD len ≤ m.getD cap) (h3 : m.getD cap ≤ cap) (h4 : (h.isSome || !m.isSome) = true) :
    (Instr.sliceBounds b len cap (lo.map ρ') (hi.map ρ') (mx.map ρ')).run P w = .ok (l.getD 0, h.getD len, m.getD cap) w := by
  rcases hm with ⟨rfl, rfl⟩ | ⟨k3, n3, e3, rfl⟩ <;> rcases hh with ⟨rfl, rfl⟩ | ⟨k2, n2, e2, rfl⟩ <;> rcases hl with ⟨rfl, rfl⟩ | ⟨k1, n1, e1, rfl⟩ <;> simp only [Option.getD, Option.isSome, Bool.or_false, Bool.not_true, Bool.false_or, reduceCtorEq] at h1 h2 h3 h4 <;>
    simp only [Instr.sliceBounds, Option.map_none, *, Sem.run_bind, Sem.run_pure, Result.andThen, run_sliceBound h1, run_sliceBound h2, run_sliceBound h3, Option.getD]

theorem sliceV_sound {P : Program} (hT : Tab.ok P T) (hV : Vis N rg w) {ρ' : Operand → Value} {t : Nat} {x r : SV} {a : Value} {lo hi mx : Option Operand} {l h m : Option Nat} (hx : x.den N = some a)
    (hl : (lo = none ∧ l = none) ∨ ∃ k n, lo.map ρ' = some (.int k (n : Nat)) ∧ l = some n) (hh : (hi = none ∧ h = none) ∨ ∃ k n, hi.map ρ' = some (.int k (n : Nat)) ∧ h = some n)
    (hm : (mx = none ∧ m = none) ∨ ∃ k n, mx.map ρ' = some (.int k (n : Nat)) ∧ m = some n) (hs : sliceV T rg t x l h m = some r) :
    ∃ v, r.den N = some v ∧ (Instr.sliceAt t a (lo.map ρ') (hi.map ρ') (mx.map ρ')).run P w = .ok v w := by
  unfold sliceV at hs
  split at hs
  · rename_i ti ht
    have ok := (hT t ti ht).kind
    split at hs
    · rename_i e hk
      rw [hk] at ok
      have ok' : P.underlying t = some (.slice e) := ok
      split at hs
      · rename_i te hte
        have oke := hT e te hte
        split at hs
        · -- a slice whose capacity is known
          rename_i r0 c n z k
          cases hb : (Nat.beq z te.size && Nat.ble (l.getD 0) (h.getD n) && Nat.ble (h.getD n) (m.getD k) && Nat.ble (m.getD k) k && (h.isSome || !m.isSome)) with
          | false => rw [hb] at hs; simp at hs
          | true =>
            rw [hb] at hs
            simp only [cond_true] at hs
            rw [Bool.and_eq_true, Bool.and_eq_true, Bool.and_eq_true, Bool.and_eq_true] at hb
            obtain ⟨⟨⟨⟨b1, b2⟩, b3⟩, b4⟩, b5⟩ := hb
            have b1 := Nat.eq_of_beq_eq_true b1
            have hrun := run_sliceBounds (P := P) (w := w) (ρ' := ρ') (b := true) (len := n) (cap := k) hl hh hm (Nat.le_of_ble_eq_true b2) (Nat.le_of_ble_eq_true b3) (Nat.le_of_ble_eq_true b4) b5
            simp only [SV.den] at hx
            cases hp : N[r0]? with
            | none => simp [hp] at hx
            | some p =>
              simp only [hp, Option.some.injEq, Num.cap] at hx; subst hx
              have main : (Instr.sliceAt t (.slice (some ⟨p.b, p.o + c, none⟩) n k) (lo.map ρ') (hi.map ρ') (mx.map ρ')).run P w =
                  .ok (.slice (if m.getD k = l.getD 0 then some ⟨p.b, p.o + c, none⟩ else some ⟨p.b, p.o + c + l.getD 0 * z, none⟩) (h.getD n - l.getD 0) (m.getD k - l.getD 0)) w := by
                simp only [Instr.sliceAt, run_underlying ok', Sem.run_bind, Result.andThen, Instr.slice, hrun, oke.size, Sem.run_pure, Option.map_some, addr_add, b1]
              cases he : Nat.beq (m.getD k) (l.getD 0) with
              | true =>
                rw [he] at hs
                simp only [cond_true, Option.some.injEq] at hs; subst hs
                have he := Nat.eq_of_beq_eq_true he
                refine ⟨_, by simp only [SV.den, hp]; rfl, ?_⟩
                rw [main, if_pos he]
                simp [Num.cap, he]
              | false =>
                rw [he] at hs
                simp only [cond_false, Option.some.injEq] at hs; subst hs
                refine ⟨_, by simp only [SV.den, hp]; rfl, ?_⟩
                rw [main, if_neg (fun e => by rw [e] at he; simp at he)]
                simp [Num.cap, Nat.add_assoc]
        · -- .. is not known
          rename_i r0 c n z
          simp only [SV.den] at hx
          cases hp : N[r0]? with
          | none => simp [hp] at hx
          | some p =>
            simp only [hp, Option.some.injEq, Num.cap] at hx; subst hx
            split at hs
            · rename_i g hg
              rw [nth_eq] at hg
              cases hb : (g.own && Nat.blt 0 z && Nat.beq z te.size && Nat.ble (l.getD 0) (h.getD n) && Nat.ble (c + h.getD n * z) g.cells.length && (Nat.beq (l.getD 0) 0 || Nat.ble (c + (l.getD 0 + 1) * z) g.cells.length)) with
              | false => rw [hb] at hs; simp at hs
              | true =>
                rw [hb] at hs
                simp only [cond_true, Option.some.injEq] at hs; subst hs
                rw [Bool.and_eq_true, Bool.and_eq_true, Bool.and_eq_true, Bool.and_eq_true, Bool.and_eq_true, Bool.or_eq_true] at hb
                obtain ⟨⟨⟨⟨⟨b0, b1⟩, b2⟩, b3⟩, b4⟩, b5⟩ := hb
                have b1 : 0 < z := by simpa using b1
                have b2 := Nat.eq_of_beq_eq_true b2
                have b3 := Nat.le_of_ble_eq_true b3
                have b4 := Nat.le_of_ble_eq_true b4
                have hext := hV.ext r0 g p hg hp b0
                have hcap : h.getD n ≤ (p.x - c) / z := by rw [Nat.le_div_iff_mul_le b1]; omega
                have hrun := run_sliceBounds (P := P) (w := w) (ρ' := ρ') (b := true) (len := n) (cap := (p.x - c) / z) hl hh hm b3 hcap (Nat.le_refl _) (by simp)
                refine ⟨_, by simp only [SV.den, hp]; rfl, ?_⟩
                simp only [Instr.sliceAt, run_underlying ok', Sem.run_bind, Result.andThen, Instr.slice, hrun, oke.size, Sem.run_pure, Option.map_some, addr_add, ← b2, Option.getD_none]
                have hc2 : (p.x - (c + l.getD 0 * z)) / z = (p.x - c) / z - l.getD 0 := by
                  rw [← Nat.sub_sub, Nat.mul_comm, Nat.sub_mul_div]
                simp only [Num.cap, hc2, Nat.add_assoc]
                rcases b5 with b5 | b5
                · have b5 := Nat.eq_of_beq_eq_true b5
                  rw [b5]; simp
                · have b5 := Nat.le_of_ble_eq_true b5
                  have : l.getD 0 + 1 ≤ (p.x - c) / z := by rw [Nat.le_div_iff_mul_le b1]; omega
                  rw [if_neg (by omega)]
            · rename_i g mm hg
              rw [nth_eq] at hg
              cases hb : (g.own && Nat.blt 0 z && Nat.beq z te.size && h.isSome && Nat.ble (l.getD 0) (h.getD n) && Nat.ble (h.getD n) mm && Nat.ble (c + mm * z) g.cells.length) with
              | false => rw [hb] at hs; simp at hs
              | true =>
                rw [hb] at hs
                simp only [cond_true] at hs
                rw [Bool.and_eq_true, Bool.and_eq_true, Bool.and_eq_true, Bool.and_eq_true, Bool.and_eq_true, Bool.and_eq_true] at hb
                obtain ⟨⟨⟨⟨⟨⟨b0, b1⟩, b2⟩, b3⟩, b4⟩, b5⟩, b6⟩ := hb
                have b1 : 0 < z := by simpa using b1
                have b2 := Nat.eq_of_beq_eq_true b2
                have b4 := Nat.le_of_ble_eq_true b4
                have b5 := Nat.le_of_ble_eq_true b5
                have b6 := Nat.le_of_ble_eq_true b6
                have hext := hV.ext r0 g p hg hp b0
                have hcap : mm ≤ (p.x - c) / z := by rw [Nat.le_div_iff_mul_le b1]; omega
                have hrun := run_sliceBounds (P := P) (w := w) (ρ' := ρ') (b := true) (len := n) (cap := (p.x - c) / z) (m := some mm) hl hh hm b4 (by simpa using b5) (by simpa using hcap) (by simp [b3])
                have main : (Instr.sliceAt t (.slice (some ⟨p.b, p.o + c, none⟩) n ((p.x - c) / z)) (lo.map ρ') (hi.map ρ') (mx.map ρ')).run P w =
                    .ok (.slice (if mm = l.getD 0 then some ⟨p.b, p.o + c, none⟩ else some ⟨p.b, p.o + c + l.getD 0 * z, none⟩) (h.getD n - l.getD 0) (mm - l.getD 0)) w := by
                  simp only [Instr.sliceAt, run_underlying ok', Sem.run_bind, Result.andThen, Instr.slice, hrun, oke.size, Sem.run_pure, Option.map_some, addr_add, ← b2, Option.getD_some]
                cases he : Nat.beq mm (l.getD 0) with
                | true =>
                  rw [he] at hs
                  simp only [cond_true, Option.some.injEq] at hs; subst hs
                  have he := Nat.eq_of_beq_eq_true he
                  refine ⟨_, by simp only [SV.den, hp]; rfl, ?_⟩
                  rw [main, if_pos he]
                  simp [Num.cap, he]
                | false =>
                  rw [he] at hs
                  simp only [cond_false, Option.some.injEq] at hs; subst hs
                  refine ⟨_, by simp only [SV.den, hp]; rfl, ?_⟩
                  rw [main, if_neg (fun e => by rw [e] at he; simp at he)]
                  simp [Num.cap, Nat.add_assoc]
            · cases hs
        · -- nil
          cases hb : (Nat.beq (l.getD 0) 0 && Nat.beq (h.getD 0) 0 && Nat.beq (m.getD 0) 0 && (h.isSome || !m.isSome)) with
          | false => rw [hb] at hs; simp at hs
          | true =>
            rw [hb] at hs
            simp only [cond_true, Option.some.injEq] at hs; subst hs
            rw [Bool.and_eq_true, Bool.and_eq_true, Bool.and_eq_true] at hb
            obtain ⟨⟨⟨b1, b2⟩, b3⟩, b4⟩ := hb
            have b1 := Nat.eq_of_beq_eq_true b1
            have b2 := Nat.eq_of_beq_eq_true b2
            have b3 := Nat.eq_of_beq_eq_true b3
            have hrun := run_sliceBounds (P := P) (w := w) (ρ' := ρ') (b := true) (len := 0) (cap := 0) hl hh hm (by omega) (by omega) (by omega) b4
            refine ⟨_, hx, ?_⟩
            simp only [SV.den, one?, if_true, Option.some.injEq] at hx; subst hx
            simp [Instr.sliceAt, run_underlying ok', Result.andThen, Instr.slice, hrun, oke.size, b1, b2, b3]
        · cases hs
      · cases hs
    · rename_i n e hk
      rw [hk] at ok
      have ok' : P.underlying t = some (.array n e) := ok
      split at hs
      · rename_i te hte
        have oke := hT e te hte
        split at hs
        · rename_i r0 c
          cases hb : (Nat.ble (l.getD 0) (h.getD n) && Nat.ble (h.getD n) (m.getD n) && Nat.ble (m.getD n) n && (h.isSome || !m.isSome)) with
          | false => rw [hb] at hs; simp at hs
          | true =>
            rw [hb] at hs
            simp only [cond_true] at hs
            rw [Bool.and_eq_true, Bool.and_eq_true, Bool.and_eq_true] at hb
            obtain ⟨⟨⟨b2, b3⟩, b4⟩, b5⟩ := hb
            have hrun := run_sliceBounds (P := P) (w := w) (ρ' := ρ') (b := false) (len := n) (cap := n) hl hh hm (Nat.le_of_ble_eq_true b2) (Nat.le_of_ble_eq_true b3) (Nat.le_of_ble_eq_true b4) b5
            simp only [SV.den] at hx
            cases hp : N[r0]? with
            | none => simp [hp] at hx
            | some p =>
              simp only [hp, Option.some.injEq] at hx; subst hx
              have main : (Instr.sliceAt t (.pointer (some ⟨p.b, p.o + c, none⟩)) (lo.map ρ') (hi.map ρ') (mx.map ρ')).run P w =
                  .ok (.slice (some (if m.getD n = l.getD 0 then ⟨p.b, p.o + c, none⟩ else ⟨p.b, p.o + c + l.getD 0 * te.size, none⟩)) (h.getD n - l.getD 0) (m.getD n - l.getD 0)) w := by
                simp only [Instr.sliceAt, run_underlying ok', Sem.run_bind, Result.andThen, Instr.sureAddr, hrun, oke.size, Sem.run_pure, addr_add]
              cases he : Nat.beq (m.getD n) (l.getD 0) with
              | true =>
                rw [he] at hs
                simp only [cond_true, Option.some.injEq] at hs; subst hs
                have he := Nat.eq_of_beq_eq_true he
                refine ⟨_, by simp only [SV.den, hp]; rfl, ?_⟩
                rw [main, if_pos he]
                simp [Num.cap, he]
              | false =>
                rw [he] at hs
                simp only [cond_false, Option.some.injEq] at hs; subst hs
                refine ⟨_, by simp only [SV.den, hp]; rfl, ?_⟩
                rw [main, if_neg (fun e => by rw [e] at he; simp at he)]
                simp [Num.cap, Nat.add_assoc]
        · cases hs
      · cases hs
    · cases hs
  · cases hs

theorem fieldV_sound {P : Program} (hT : Tab.ok P T) {t f : Nat} {x r : SV} {a : Value} (hx : x.den N = some a) (h : fieldV T t x f = some r) :
    ∃ v, r.den N = some v ∧ (Instr.field t a f).run P w = .ok v w := by
  unfold fieldV at h
  split at h
  · rename_i ti cs ht
    have ok := (hT t ti ht).kind
    split at h
    · rename_i fs hk
      rw [hk] at ok
      split at h
      · rename_i o n ag hf
        obtain ⟨fields, fd, h1, h2, rfl, h4, h5⟩ := struct_field ok hf
        simp only [SV.den] at hx
        cases hl : SV.denL N cs with
        | none => simp [hl] at hx
        | some l =>
          simp only [hl, Option.some.injEq] at hx; subst hx
          obtain ⟨v, hv, hrun⟩ := part_sound (P := P) (w := w) (h4 w) (h5 w) hl h
          refine ⟨v, hv, ?_⟩
          simp [Instr.field, run_underlying h1, h2, asAgg, Result.andThen, hrun]
      · cases h
    · cases h
  · cases h

theorem indexV_sound {P : Program} (hT : Tab.ok P T) {t : Nat} {x i r : SV} {a b : Value} (hx : x.den N = some a) (hi : i.den N = some b) (h : indexV T t x i = some r) :
    ∃ v, r.den N = some v ∧ (Instr.index t a b).run P w = .ok v w := by
  unfold indexV at h
  split at h
  · rename_i k z cs
    split at h
    · rename_i ti ht
      have ok := (hT t ti ht).kind
      split at h
      · rename_i n e hk
        rw [hk] at ok
        have ok' : P.underlying t = some (.array n e) := ok
        split at h
        · rename_i te hte
          have oke := hT e te hte
          cases hz : (decide (0 ≤ z) && decide (z < n)) with
          | false => rw [hz] at h; simp at h
          | true =>
            rw [hz] at h
            simp only [cond_true] at h
            simp only [Bool.and_eq_true, decide_eq_true_eq] at hz
            simp only [SV.den, SI.den, Option.some.injEq] at hi hx; subst hi
            cases hl : SV.denL N cs with
            | none => simp [hl] at hx
            | some l =>
              simp only [hl, Option.some.injEq] at hx; subst hx
              obtain ⟨v, hv, hrun⟩ := part_sound (P := P) (w := w) (oke.size w) (oke.agg w) hl h
              refine ⟨v, hv, ?_⟩
              simp [Instr.index, asIntOf, run_underlying ok', Result.andThen, hz, oke.size, hrun]
        · cases h
      · cases h
    · cases h
  · cases h

theorem extractV_sound {P : Program} {i : Nat} {x r : SV} {a : Value} (hx : x.den N = some a) (h : extractV x i = some r) :
    ∃ v, r.den N = some v ∧ (Instr.extract a i).run P w = .ok v w := by
  unfold extractV at h
  split at h
  · rename_i cs
    simp only [SV.den] at hx
    cases hl : SV.denL N cs with
    | none => simp [hl] at hx
    | some l =>
      simp only [hl, Option.some.injEq] at hx; subst hx
      rw [nth_eq] at h
      obtain ⟨_, hget⟩ := SV.denL_get _ hl
      obtain ⟨v, h1, h2⟩ := hget i r h
      exact ⟨v, h1, by simp [Instr.extract, h2]⟩
  · cases h

theorem nilCheckV_sound {P : Program} {ρ : Operand → Value} {o : Oper} {y : Operand} (ho : o.op = .nilCheck y) {x r : SV} (hx : x.den N = some (ρ y)) (h : nilCheckV x = some r) :
    ∃ v, r.den N = some v ∧ (execOp ρ o).run P w = .ok (.value v) w := by
  unfold nilCheckV at h
  split at h <;> simp only [Option.some.injEq, reduceCtorEq] at h
  · rename_i q c
    subst h
    refine ⟨_, hx, ?_⟩
    simp only [SV.den] at hx
    cases hp : N[q]? with
    | none => simp [hp] at hx
    | some p =>
      simp only [hp, Option.some.injEq] at hx
      simp [execOp, ho, ← hx]
  · subst h
    refine ⟨_, hx, ?_⟩
    simp only [SV.den, Option.some.injEq] at hx
    simp [execOp, ho, ← hx]
  · subst h
    refine ⟨_, hx, ?_⟩
    simp only [SV.den, one?, if_true, Option.some.injEq] at hx
    simp [execOp, ho, ← hx]

end
end Go.Eng
