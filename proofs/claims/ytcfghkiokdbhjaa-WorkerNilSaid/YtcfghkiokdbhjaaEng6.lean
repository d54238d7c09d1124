/- The symbolic executor, part 6: every operation; effects. -/
import Derived.Test.YtcfghkiokdbhjaaEng5

namespace Go.Eng

section
variable {E : Env} {N : Nums} {rg : List Rg} {w : World} {T : Tab}

theorem run_places' {P : Program} : ∀ l : List Field, (∀ f ∈ l, (P.info? f.type).isSome = true) → (l.mapM fun f => Prod.mk f.offset <$> sizeOf f.type).run P w = .ok (l.map fun f => (f.offset, P.cellsOf f.type)) w
  | [], _ => by simp
  | f :: l, hl => by
    obtain ⟨i, hfi⟩ := Option.isSome_iff_exists.1 (hl f (by simp))
    have hs : (sizeOf f.type).run P w = .ok (P.cellsOf f.type) w := by rw [run_sizeOf hfi]; simp [Program.cellsOf, hfi]
    simp [List.mapM_cons, hs, run_places' l (fun g hg => hl g (by simp [hg]))]

theorem buildV_sound {P : Program} (hT : Tab.ok P T) {t : Nat} {ps : List (Nat × SV)} {vs : Array (Nat × Value)} {r : SV}
    (hv : ∀ (j : Nat) (p : Nat × SV), ps[j]? = some p → ∃ v, p.2.den N = some v ∧ vs.toList[j]? = some (p.1, v)) (hl : vs.toList.length = ps.length) (h : buildV T t ps = some r) :
    ∃ v, r.den N = some v ∧ (Instr.build t vs).run P w = .ok v w := by
  unfold buildV at h
  split at h
  · rename_i ti ht
    have ok := hT t ti ht
    obtain ⟨z, hz, hzd⟩ := ok.zero
    have hzd' : SV.denL N ti.zero = some z.cells.toList := SV.denL_mono (N := []) (N' := N) (fun r p h => by simp at h) _ hzd
    have okk := ok.kind
    split at h
    · rename_i fs hk
      rw [hk] at okk
      split at h
      · rename_i cs hf
        simp only [Option.some.injEq] at h; subst h
        obtain ⟨fields, hu, hfs, hall⟩ := okk
        obtain ⟨q, hq1, hq2⟩ := fillV_sound ps vs.toList hzd' hv hl hf
        refine ⟨.agg q, by simp [SV.den, hq1], ?_⟩
        have hpl : placeV fs = fun (x : Nat) => (fields.toList.map fun f => (f.offset, P.cellsOf f.type))[x]? := by
          funext i
          unfold placeV
          rw [nth_eq, hfs, List.getElem?_map, List.getElem?_map]
          cases fields.toList[i]? <;> rfl
        rw [hpl] at hq2
        simp only [Instr.build, Sem.run_bind, hz, run_underlying hu, Result.andThen]
        have := run_places' (P := P) (w := w) fields.toList (fun f hf => (hall f hf).1)
        simp [Array.mapM_eq_mapM_toList, this] at hq2 ⊢
        simp [hq2]
      · cases h
    · rename_i n e hk
      rw [hk] at okk
      have hu : P.underlying t = some (.array n e) := okk
      split at h
      · rename_i te hte
        have oke := hT e te hte
        split at h
        · rename_i cs hf
          simp only [Option.some.injEq] at h; subst h
          obtain ⟨q, hq1, hq2⟩ := fillV_sound ps vs.toList hzd' hv hl hf
          refine ⟨.agg q, by simp [SV.den, hq1], ?_⟩
          simp [Instr.build, hz, run_underlying hu, Result.andThen, oke.size, hq2]
        · cases h
      · cases h
    · cases h
  · cases h

theorem pickV_sound {c a b r : SV} {cb : Bool} {va vb : Value} (hc : c.den N = some (.bool cb)) (ha : cb = true → a.den N = some va) (hb : cb = false → b.den N = some vb) (h : pickV c a b = some r) :
    r.den N = some (bif cb then va else vb) := by
  unfold pickV at h
  split at h
  · simp only [Option.some.injEq] at h; subst h
    simp only [SV.den, SB.den, Option.some.injEq, Value.bool.injEq] at hc; subst hc
    exact ha rfl
  · simp only [Option.some.injEq] at h; subst h
    simp only [SV.den, SB.den, Option.some.injEq, Value.bool.injEq] at hc; subst hc
    exact hb rfl
  · rename_i c' _ _
    split at h
    · rename_i a' b'
      simp only [Option.some.injEq] at h; subst h
      simp only [SV.den, Option.some.injEq, Value.bool.injEq] at hc; subst hc
      cases hcb : c'.den with
      | true =>
        have := ha hcb
        simp only [SV.den, Option.some.injEq] at this; subst this
        simp [SV.den, pickB_den, hcb]
      | false =>
        have := hb hcb
        simp only [SV.den, Option.some.injEq] at this; subst this
        simp [SV.den, pickB_den, hcb]
    · cases h
  · cases h

theorem evs_sound {ρ : Operand → Option SV} {ρ' : Operand → Value} (hρ : ∀ x s, ρ x = some s → s.den N = some (ρ' x)) : ∀ (l : List (Nat × Operand)) {r : List (Nat × SV)}, evs ρ l = some r →
    (∀ (j : Nat) (p : Nat × SV), r[j]? = some p → ∃ v, p.2.den N = some v ∧ (l.map fun (i, x) => (i, ρ' x))[j]? = some (p.1, v)) ∧ r.length = l.length
  | [], r, h => by simp only [evs, Option.some.injEq] at h; subst h; simp
  | (i, x) :: l, r, h => by
    simp only [evs] at h
    cases hx : ρ x with
    | none => simp [hx] at h
    | some v =>
      cases hl : evs ρ l with
      | none => simp [hx, hl] at h
      | some q =>
        simp only [hx, hl, Option.some.injEq] at h; subst h
        obtain ⟨h1, h2⟩ := evs_sound hρ l hl
        refine ⟨fun j p hj => ?_, by simp [h2]⟩
        cases j with
        | zero => simp at hj; subst hj; exact ⟨ρ' x, hρ x v hx, by simp⟩
        | succ j => simp only [List.getElem?_cons_succ, List.map_cons] at hj ⊢; exact h1 j p hj

/-- what is asked of the table beside -/
structure TabOk (P : Program) (T : Tab) : Prop where
  ok : Tab.ok P T
  und : ∀ t ti, lookT T t = some ti → (P.underlying t).isSome = true
  mixed : P.follows .mixedOrders = true

theorem TI.of_und {P : Program} {t : Nat} {ti : TI} (h : TI.of P t = some ti) : (P.underlying t).isSome = true := by
  unfold TI.of at h
  split at h
  · split at h
    · split at h
      · rename_i hc
        simp only [Bool.and_eq_true] at hc
        exact hc.1
      · cases h
    · cases h
  · cases h

theorem TabOk.of_eq {P : Program} {T : Tab} (hm : P.follows .mixedOrders = true) (h : T.map (fun p => TI.of P p.1) = T.map (fun p => some p.2)) : TabOk P T := by
  have main : ∀ (T : Tab), T.map (fun p => TI.of P p.1) = T.map (fun p => some p.2) → ∀ t ti, lookT T t = some ti → TI.of P t = some ti := by
    intro T
    induction T with
    | nil => intro _ t ti h; simp [lookT] at h
    | cons p r ih =>
      intro h t ti hl
      obtain ⟨k, v⟩ := p
      simp only [List.map_cons, List.cons.injEq] at h
      simp only [lookT] at hl
      by_cases hk : k = t
      · subst hk; simp at hl; subst hl; exact h.1
      · simp only [beq_ne hk, cond_false] at hl; exact ih h.2 t ti hl
  exact ⟨fun t ti hl => TI.of_ok (main T h t ti hl), fun t ti hl => TI.of_und (main T h t ti hl), hm⟩

theorem TabOk.nil {P : Program} (hm : P.follows .mixedOrders = true) : TabOk P [] := ⟨fun t ti h => by simp [lookT] at h, fun t ti h => by simp [lookT] at h, hm⟩
theorem TabOk.cons {P : Program} {t : Nat} {ti : TI} {T : Tab} (h : TI.of P t = some ti) (k : TabOk P T) : TabOk P ((t, ti) :: T) := by
  refine ⟨fun u tu hl => ?_, fun u tu hl => ?_, k.mixed⟩ <;> simp only [lookT] at hl <;> by_cases hk : t = u
  · subst hk; simp at hl; subst hl; exact TI.of_ok h
  · simp only [beq_ne hk, cond_false] at hl; exact k.ok u tu hl
  · subst hk; simp at hl; subst hl; exact TI.of_und h
  · simp only [beq_ne hk, cond_false] at hl; exact k.und u tu hl

theorem stepP_sound {P : Program} (hT : TabOk P T) (h : Vis N rg w) {ρ : Operand → Option SV} {ρ' : Operand → Value} (hρ : ∀ x s, ρ x = some s → s.den N = some (ρ' x)) {o : Oper} {r : SV} (hs : stepP T rg ρ o.op = some r) :
    ∃ x, r.den N = some x ∧ (execOp ρ' o).run P w = .ok (.value x) w := by
  have fin : ∀ {s : Sem Value}, (∃ v, r.den N = some v ∧ s.run P w = .ok v w) → ∃ x, r.den N = some x ∧ ((do pure (.value (← s)) : Sem Next)).run P w = .ok (.value x) w := by
    rintro s ⟨v, h1, h2⟩
    exact ⟨v, h1, by simp [h2]⟩
  cases hop : o.op <;> simp only [hop, stepP] at hs <;> try (simp at hs; done)
  case move x => exact ⟨_, hρ x r hs, by simp [execOp, hop]⟩
  case assign x => exact ⟨_, hρ x r hs, by simp [execOp, hop]⟩
  case load t a =>
    split at hs
    · rename_i x hx
      obtain ⟨v, h1, h2⟩ := loadV_sound hT.ok h (hρ _ _ hx) hs
      exact ⟨v, h1, by simp [execOp, hop, h2]⟩
    · cases hs
  case nilCheck x =>
    split at hs
    · rename_i y hy
      exact nilCheckV_sound hop (hρ _ _ hy) hs
    · cases hs
  case binOp op t x y ty =>
    split at hs
    · rename_i a b ha hb
      obtain ⟨v, h1, h2⟩ := binV_sound (w := w) hT.ok (hρ _ _ ha) (hρ _ _ hb) hs x y
      refine ⟨v, h1, ?_⟩
      simp only [execOp, hop]
      rw [Sem.run_bind, h2]
      rfl
    · cases hs
  case unOp op t x =>
    split at hs
    · rename_i a ha
      obtain ⟨v, h1, h2⟩ := unV_sound (P := P) (w := w) (hρ _ _ ha) hs
      exact ⟨v, h1, by simp [execOp, hop, h2]⟩
    · cases hs
  case convert s d x =>
    split at hs
    · rename_i a ha
      obtain ⟨v, h1, h2⟩ := convV_sound (w := w) hT.ok hT.und (hρ _ _ ha) hs
      exact ⟨v, h1, by simp [execOp, hop, h2]⟩
    · cases hs
  case fieldAddr t x f =>
    split at hs
    · rename_i a ha
      obtain ⟨v, h1, h2⟩ := fieldAddrV_sound (w := w) hT.ok (hρ _ _ ha) hs
      exact ⟨v, h1, by simp [execOp, hop, h2]⟩
    · cases hs
  case field t x f =>
    split at hs
    · rename_i a ha
      obtain ⟨v, h1, h2⟩ := fieldV_sound (w := w) hT.ok (hρ _ _ ha) hs
      exact ⟨v, h1, by simp [execOp, hop, h2]⟩
    · cases hs
  case indexAddr t x i =>
    split at hs
    · rename_i a b ha hb
      obtain ⟨v, h1, h2⟩ := indexAddrV_sound (w := w) hT.ok (hρ _ _ ha) (hρ _ _ hb) hs
      exact ⟨v, h1, by simp [execOp, hop, h2]⟩
    · cases hs
  case index t x i =>
    split at hs
    · rename_i a b ha hb
      obtain ⟨v, h1, h2⟩ := indexV_sound (w := w) hT.ok (hρ _ _ ha) (hρ _ _ hb) hs
      exact ⟨v, h1, by simp [execOp, hop, h2]⟩
    · cases hs
  case extract x i =>
    split at hs
    · rename_i a ha
      obtain ⟨v, h1, h2⟩ := extractV_sound (P := P) (w := w) (hρ _ _ ha) hs
      exact ⟨v, h1, by simp [execOp, hop, h2]⟩
    · cases hs
  case build t ps =>
    split at hs
    · rename_i l hl
      obtain ⟨h1, h2⟩ := evs_sound hρ ps.toList hl
      obtain ⟨v, k1, k2⟩ := buildV_sound (P := P) (w := w) (vs := ps.map fun (i, x) => (i, ρ' x)) hT.ok (by simpa using h1) (by simp [h2]) hs
      exact ⟨v, k1, by simp only [execOp, hop]; simp [k2]⟩
    · cases hs
  case call c =>
    split at hs
    · rename_i hcal
      split at hs
      · rename_i x t hx ht
        split at hs
        · rename_i a ha
          obtain ⟨v, h1, h2⟩ := lenV_sound (w := w) (ty := o.type) hT.ok (hρ _ _ ha) hs
          refine ⟨v, h1, ?_⟩
          obtain ⟨callee, args, argTypes⟩ := c
          simp only at hcal hx ht
          subst hcal
          have e1 : args = #[x] := by rw [← Array.toArray_toList (xs := args), hx]
          have e2 : argTypes = #[t] := by rw [← Array.toArray_toList (xs := argTypes), ht]
          subst e1; subst e2
          simp [execOp, hop, resolve, invoke, builtin, h2]
        · cases hs
      · cases hs
    · cases hs

/-! ### effects -/
/-- an operation that makes a block, or writes one: what it yields; the regions behind it -/
def stepE (T : Tab) (rg : List Rg) (ρ : Operand → Option SV) (op : Op) : Option (SV × List Rg) :=
  match op with
  | .alloc t => match lookT T t with
    | some ti => some (.own rg.length 0, rg ++ [⟨true, ti.zero⟩])
    | none => none
  | .box _ x => match ρ x with
    | some (.tup _) => none
    | some (.big _) => none
    | some v => some (.own rg.length 0, rg ++ [⟨true, v.cells⟩])
    | none => none
  | .store t a x => match ρ a, ρ x, lookT T t with
    | some (.own r c), some v, some ti => match nth rg r with
      | some g => bif g.own && Nat.beq v.cells.length ti.size && Nat.ble (c + ti.size) g.cells.length && v.cells.all SV.one then
          some (.tup [], rg.set r { g with cells := setRow g.cells c v.cells })
        else none
      | none => none
    | _, _, _ => none
  | _ => none

/-- what an operation has yielded -/
def Yields (P : Program) (ρ : Operand → Value) (o : Oper) (w : World) (x : Value) (w' : World) : Prop :=
  (execOp ρ o).run P w = .ok (.value x) w' ∨ ((execOp ρ o).run P w = .ok .skip w' ∧ x = undef)

theorem one_cells {l : List Value} : ∀ {cs : List SV}, cs.all SV.one = true → SV.denL N cs = some l → ∀ v ∈ l, one? v = true := by
  intro cs hc hl v hv
  obtain ⟨hlen, hget⟩ := SV.denL_get _ hl
  obtain ⟨j, hj⟩ := List.mem_iff_getElem?.1 hv
  have hjl : j < cs.length := by rw [← hlen]; exact (List.getElem?_eq_some_iff.1 hj).1
  obtain ⟨c, hcj⟩ : ∃ c, cs[j]? = some c := ⟨_, List.getElem?_eq_getElem hjl⟩
  obtain ⟨u, h1, h2⟩ := hget j c hcj
  rw [hj] at h2; cases h2
  exact (SV.one_spec (List.all_eq_true.1 hc c (List.mem_of_getElem? hcj)) h1).1

theorem stepE_sound (hT : TabOk E.P T) (h : Sat E N rg w) {ρ : Operand → Option SV} {ρ' : Operand → Value} (hρ : ∀ x s, ρ x = some s → s.den N = some (ρ' x)) {o : Oper} {r : SV} {rg' : List Rg} (hs : stepE T rg ρ o.op = some (r, rg')) :
    ∃ N' x w', N.le N' ∧ r.den N' = some x ∧ Yields E.P ρ' o w x w' ∧ Sat E N' rg' w' := by
  have new : ∀ (cs : List SV) (l : List Value) (t : TypeId), SV.denL N cs = some l → N.le (N ++ [(w.heap.size, 0)]) ∧ (SV.own rg.length 0).den (N ++ [(w.heap.size, 0)]) = some (.pointer (some ⟨w.heap.size, 0, none⟩)) ∧
      Sat E (N ++ [(w.heap.size, 0)]) (rg ++ [⟨true, cs⟩]) (w.alloc (.cells l.toArray t)) := by
    intro cs l t hl
    refine ⟨Nums.le_append _ _, ?_, h.alloc hl t⟩
    have : (N ++ [(w.heap.size, 0)])[rg.length]? = some (w.heap.size, 0) := by rw [← h.len]; simp
    simp [SV.den, this]
  cases hop : o.op <;> simp only [hop, stepE] at hs <;> try (simp at hs; done)
  case alloc t =>
    split at hs
    · rename_i ti ht
      simp only [Option.some.injEq, Prod.mk.injEq] at hs
      obtain ⟨rfl, rfl⟩ := hs
      obtain ⟨z, hz, hzd⟩ := (hT.ok t ti ht).zero
      have hzd' : SV.denL N ti.zero = some z.cells.toList := SV.denL_mono (N := []) (N' := N) (fun r p h => by simp at h) _ hzd
      obtain ⟨h1, h2, h3⟩ := new _ _ t hzd'
      refine ⟨_, _, _, h1, h2, .inl ?_, h3⟩
      simp [execOp, hop, Instr.alloc, hz, Result.andThen, newVar, newRow]
    · cases hs
  case box t x =>
    have main : ∀ v, ρ x = some v → (∀ l, v ≠ .tup l) → (∀ l, v ≠ .big l) → some (SV.own rg.length 0, rg ++ [⟨true, v.cells⟩]) = some (r, rg') →
        ∃ N' x w', N.le N' ∧ r.den N' = some x ∧ Yields E.P ρ' o w x w' ∧ Sat E N' rg' w' := by
      intro v hv hnt hnb hs
      simp only [Option.some.injEq, Prod.mk.injEq] at hs
      obtain ⟨rfl, rfl⟩ := hs
      have hc := cells_den (hρ _ _ hv) hnt hnb
      obtain ⟨h1, h2, h3⟩ := new _ _ t hc
      refine ⟨_, _, _, h1, h2, .inl ?_, h3⟩
      simp [execOp, hop, Instr.box, Result.andThen, newVar, newRow]
    cases hx : ρ x with
    | none => simp [hx] at hs
    | some v =>
      rw [hx] at hs
      cases v <;> first | (simp at hs; done) | exact main _ hx (by simp) (by simp) hs
  case store t a x =>
    split at hs
    · rename_i q c v ti ha hx ht
      split at hs
      · rename_i g hg
        rw [nth_eq] at hg
        cases hb : (g.own && Nat.beq v.cells.length ti.size && Nat.ble (c + ti.size) g.cells.length && v.cells.all SV.one) with
        | false => rw [hb] at hs; simp at hs
        | true =>
          rw [hb] at hs
          simp only [cond_true, Option.some.injEq, Prod.mk.injEq] at hs
          obtain ⟨rfl, rfl⟩ := hs
          simp only [Bool.and_eq_true] at hb
          obtain ⟨⟨⟨b1, b2⟩, b3⟩, b4⟩ := hb
          have b2 := Nat.eq_of_beq_eq_true b2
          have b3 := Nat.le_of_ble_eq_true b3
          have hda := hρ _ _ ha
          simp only [SV.den] at hda
          cases hp : N[q]? with
          | none => simp [hp] at hda
          | some p =>
            simp only [hp, Option.some.injEq] at hda
            have hnt : ∀ l, v ≠ .tup l := fun l e => by subst e; simp [SV.cells, SV.one] at b4
            have hnb : ∀ l, v ≠ .big l := fun l e => by subst e; simp [SV.cells, SV.one] at b4
            have hc := cells_den (hρ _ _ hx) hnt hnb
            obtain ⟨w', hrun, hsat⟩ := Sat.store hp c v.cells (ρ' x).cells.toList 0 h hg b1 (by omega) hc (one_cells b4 hc)
            have hsz : (ρ' x).cells.size = ti.size := by
              have := (SV.denL_get _ hc).1
              rw [← b2, ← this]; simp
            refine ⟨N, undef, w', Nums.le.refl N, rfl, .inr ⟨?_, rfl⟩, by simpa using hsat⟩
            simp only [execOp, hop, Instr.storeAt, ← hda, Instr.sureAddr, storeVar, Sem.run_bind, Sem.run_pure, Result.andThen, (hT.ok t ti ht).size]
            rw [if_neg (by simp [hsz])]
            simp [hrun]
      · cases hs
    · cases hs

end
end Go.Eng
