/- The symbolic executor, part 6: every operation; effects. -/
import Derived.Test.YtkjhpaeminegoaaEngA

namespace Go.Eng

section
variable {E : Env} {N : Nums} {rg : List Rg} {w : World} {T : Tab}

theorem run_places' {P : Program} : ∀ l : List Field, (∀ f ∈ l, (P.info? f.type).isSome = true) → (l.mapM fun f => Prod.mk f.offset <$> sizeOf f.type).run P w = .ok (l.map fun f => (f.offset, P.cellsOf f.type)) w
  | [], _ => by simp
  | f :: l, hl => by
    obtain ⟨i, hfi⟩ := Option.isSome_iff_exists.1 (hl f (by simp))
    have hs : (sizeOf f.type).run P w = .ok (P.cellsOf f.type) w := by rw [run_sizeOf hfi]; simp [Program.cellsOf, hfi]
    simp [List.mapM_cons, hs, run_places' l (fun g hg => hl g (by simp [hg]))]

theorem buildV_sound {P : Program} (hT : Tab.ok P T) {t : Nat} {ps : List (Nat × SV)} {vs : Array (Nat × Value)} {r : SV}
    (hv : ∀ (j : Nat) (p : Nat × SV), ps[j]? = some p → ∃ v, p.2.den N = some v ∧ vs.toList[j]? = some (p.1, v)) (hl : vs.toList.length = ps.length) (h : buildV T t ps = some r) :
    ∃ v, r.den N = some v ∧ (Instr.build t vs).run P w = .ok v w := by
  unfold buildV at h
  split at h
  · rename_i ti ht
    have ok := hT t ti ht
    obtain ⟨z, hz, hzd⟩ := ok.zero
    have hzd' : SV.denL N ti.zero = some z.cells.toList := SV.denL_mono (N := []) (N' := N) (fun r p h => by simp at h) _ hzd
    have okk := ok.kind
    split at h
    · rename_i fs hk
      rw [hk] at okk
      split at h
      · rename_i cs hf
        simp only [Option.some.injEq] at h; subst h
        obtain ⟨fields, hu, hfs, hall⟩ := okk
        obtain ⟨q, hq1, hq2⟩ := fillV_sound ps vs.toList hzd' hv hl hf
        refine ⟨.agg q, by simp [SV.den, hq1], ?_⟩
        have hpl : placeV fs = fun (x : Nat) => (fields.toList.map fun f => (f.offset, P.cellsOf f.type))[x]? := by
          funext i
          unfold placeV
          rw [nth_eq, hfs, List.getElem?_map, List.getElem?_map]
          cases fields.toList[i]? <;> rfl
        rw [hpl] at hq2
        simp only [Instr.build, Sem.run_bind, hz, run_underlying hu, Result.andThen]
        have := run_places' (P := P) (w := w) fields.toList (fun f hf => (hall f hf).1)
        simp [Array.mapM_eq_mapM_toList, this] at hq2 ⊢
        simp [hq2]
      · cases h
    · rename_i n e hk
      rw [hk] at okk
      have hu : P.underlying t = some (.array n e) := okk
      split at h
      · rename_i te hte
        have oke := hT e te hte
        split at h
        · rename_i cs hf
          simp only [Option.some.injEq] at h; subst h
          obtain ⟨q, hq1, hq2⟩ := fillV_sound ps vs.toList hzd' hv hl hf
          refine ⟨.agg q, by simp [SV.den, hq1], ?_⟩
          simp [Instr.build, hz, run_underlying hu, Result.andThen, oke.size, hq2]
        · cases h
      · cases h
    · cases h
  · cases h

theorem pickV_sound {c a b r : SV} {cb : Bool} {va vb : Value} (hc : c.den N = some (.bool cb)) (ha : cb = true → a.den N = some va) (hb : cb = false → b.den N = some vb) (h : pickV c a b = some r) :
    r.den N = some (bif cb then va else vb) := by
  unfold pickV at h
  split at h
  · simp only [Option.some.injEq] at h; subst h
    simp only [SV.den, SB.den, Option.some.injEq, Value.bool.injEq] at hc; subst hc
    exact ha rfl
  · simp only [Option.some.injEq] at h; subst h
    simp only [SV.den, SB.den, Option.some.injEq, Value.bool.injEq] at hc; subst hc
    exact hb rfl
  · rename_i c' _ _
    split at h
    · rename_i a' b'
      simp only [Option.some.injEq] at h; subst h
      simp only [SV.den, Option.some.injEq, Value.bool.injEq] at hc; subst hc
      cases hcb : c'.den with
      | true =>
        have := ha hcb
        simp only [SV.den, Option.some.injEq] at this; subst this
        simp [SV.den, pickB_den, hcb]
      | false =>
        have := hb hcb
        simp only [SV.den, Option.some.injEq] at this; subst this
        simp [SV.den, pickB_den, hcb]
    · cases h
  · cases h

theorem evs_sound {ρ : Operand → Option SV} {ρ' : Operand → Value} (hρ : ∀ x s, ρ x = some s → s.den N = some (ρ' x)) : ∀ (l : List (Nat × Operand)) {r : List (Nat × SV)}, evs ρ l = some r →
    (∀ (j : Nat) (p : Nat × SV), r[j]? = some p → ∃ v, p.2.den N = some v ∧ (l.map fun (i, x) => (i, ρ' x))[j]? = some (p.1, v)) ∧ r.length = l.length
  | [], r, h => by simp only [evs, Option.some.injEq] at h; subst h; simp
  | (i, x) :: l, r, h => by
    simp only [evs] at h
    cases hx : ρ x with
    | none => simp [hx] at h
    | some v =>
      cases hl : evs ρ l with
      | none => simp [hx, hl] at h
      | some q =>
        simp only [hx, hl, Option.some.injEq] at h; subst h
        obtain ⟨h1, h2⟩ := evs_sound hρ l hl
        refine ⟨fun j p hj => ?_, by simp [h2]⟩
        cases j with
        | zero => simp at hj; subst hj; exact ⟨ρ' x, hρ x v hx, by simp⟩
        | succ j => simp only [List.getElem?_cons_succ, List.map_cons] at hj ⊢; exact h1 j p hj

/-- what is asked of the table beside -/
structure TabOk (P : Program) (T : Tab) : Prop where
  ok : Tab.ok P T
  und : ∀ t ti, lookT T t = some ti → (P.underlying t).isSome = true
  mixed : P.follows .mixedOrders = true

theorem TI.of_und {P : Program} {t : Nat} {ti : TI} (h : TI.of P t = some ti) : (P.underlying t).isSome = true := by
  unfold TI.of at h
  split at h
  · split at h
    · split at h
      · rename_i hc
        simp only [Bool.and_eq_true] at hc
        exact hc.1
      · cases h
    · cases h
  · cases h

theorem TabOk.of_eq {P : Program} {T : Tab} (hm : P.follows .mixedOrders = true) (h : T.map (fun p => TI.of P p.1) = T.map (fun p => some p.2)) : TabOk P T := by
  have main : ∀ (T : Tab), T.map (fun p => TI.of P p.1) = T.map (fun p => some p.2) → ∀ t ti, lookT T t = some ti → TI.of P t = some ti := by
    intro T
    induction T with
    | nil => intro _ t ti h; simp [lookT] at h
    | cons p r ih =>
      intro h t ti hl
      obtain ⟨k, v⟩ := p
      simp only [List.map_cons, List.cons.injEq] at h
      simp only [lookT] at hl
      by_cases hk : k = t
      · subst hk; simp at hl; subst hl; exact h.1
      · simp only [beq_ne hk, cond_false] at hl; exact ih h.2 t ti hl
  exact ⟨fun t ti hl => TI.of_ok (main T h t ti hl), fun t ti hl => TI.of_und (main T h t ti hl), hm⟩

theorem TabOk.nil {P : Program} (hm : P.follows .mixedOrders = true) : TabOk P [] := ⟨fun t ti h => by simp [lookT] at h, fun t ti h => by simp [lookT] at h, hm⟩
theorem TabOk.cons {P : Program} {t : Nat} {ti : TI} {T : Tab} (h : TI.of P t = some ti) (k : TabOk P T) : TabOk P ((t, ti) :: T) := by
  refine ⟨fun u tu hl => ?_, fun u tu hl => ?_, k.mixed⟩ <;> simp only [lookT] at hl <;> by_cases hk : t = u
  · subst hk; simp at hl; subst hl; exact TI.of_ok h
  · simp only [beq_ne hk, cond_false] at hl; exact k.ok u tu hl
  · subst hk; simp at hl; subst hl; exact TI.of_und h
  · simp only [beq_ne hk, cond_false] at hl; exact k.und u tu hl

theorem stepP_sound {P : Program} (hT : TabOk P T) (h : Vis N rg w) {ρ : Operand → Option SV} {ρ' : Operand → Value} (hρ : ∀ x s, ρ x = some s → s.den N = some (ρ' x)) {o : Oper} {r : SV} (hs : stepP T rg ρ o.op = some r) :
    ∃ x, r.den N = some x ∧ (execOp ρ' o).run P w = .ok (.value x) w := by
  have fin : ∀ {s : Sem Value}, (∃ v, r.den N = some v ∧ s.run P w = .ok v w) → ∃ x, r.den N = some x ∧ ((do pure (.value (← s)) : Sem Next)).run P w = .ok (.value x) w := by
    rintro s ⟨v, h1, h2⟩
    exact ⟨v, h1, by simp [h2]⟩
  cases hop : o.op <;> simp only [hop, stepP] at hs <;> try (simp at hs; done)
  case move x => exact ⟨_, hρ x r hs, by simp [execOp, hop]⟩
  case assign x => exact ⟨_, hρ x r hs, by simp [execOp, hop]⟩
  case load t a =>
    split at hs
    · rename_i x hx
      obtain ⟨v, h1, h2⟩ := loadV_sound hT.ok h (hρ _ _ hx) hs
      exact ⟨v, h1, by simp [execOp, hop, h2]⟩
    · cases hs
  case nilCheck x =>
    split at hs
    · rename_i y hy
      exact nilCheckV_sound hop (hρ _ _ hy) hs
    · cases hs
  case binOp op t x y ty =>
    split at hs
    · rename_i a b ha hb
      obtain ⟨v, h1, h2⟩ := binV_sound (w := w) hT.ok (hρ _ _ ha) (hρ _ _ hb) hs x y
      refine ⟨v, h1, ?_⟩
      simp only [execOp, hop]
      rw [Sem.run_bind, h2]
      rfl
    · cases hs
  case unOp op t x =>
    split at hs
    · rename_i a ha
      obtain ⟨v, h1, h2⟩ := unV_sound (P := P) (w := w) (hρ _ _ ha) hs
      exact ⟨v, h1, by simp [execOp, hop, h2]⟩
    · cases hs
  case convert s d x =>
    split at hs
    · rename_i a ha
      obtain ⟨v, h1, h2⟩ := convV_sound (w := w) hT.ok hT.und (hρ _ _ ha) hs
      exact ⟨v, h1, by simp [execOp, hop, h2]⟩
    · cases hs
  case fieldAddr t x f =>
    split at hs
    · rename_i a ha
      obtain ⟨v, h1, h2⟩ := fieldAddrV_sound (w := w) hT.ok (hρ _ _ ha) hs
      exact ⟨v, h1, by simp [execOp, hop, h2]⟩
    · cases hs
  case field t x f =>
    split at hs
    · rename_i a ha
      obtain ⟨v, h1, h2⟩ := fieldV_sound (w := w) hT.ok (hρ _ _ ha) hs
      exact ⟨v, h1, by simp [execOp, hop, h2]⟩
    · cases hs
  case indexAddr t x i =>
    split at hs
    · rename_i a b ha hb
      obtain ⟨v, h1, h2⟩ := indexAddrV_sound (w := w) hT.ok (hρ _ _ ha) (hρ _ _ hb) hs
      exact ⟨v, h1, by simp [execOp, hop, h2]⟩
    · cases hs
  case index t x i =>
    split at hs
    · rename_i a b ha hb
      obtain ⟨v, h1, h2⟩ := indexV_sound (w := w) hT.ok (hρ _ _ ha) (hρ _ _ hb) hs
      exact ⟨v, h1, by simp [execOp, hop, h2]⟩
    · cases hs
  case extract x i =>
    split at hs
    · rename_i a ha
      obtain ⟨v, h1, h2⟩ := extractV_sound (P := P) (w := w) (hρ _ _ ha) hs
      exact ⟨v, h1, by simp [execOp, hop, h2]⟩
    · cases hs
  case build t ps =>
    split at hs
    · rename_i l hl
      obtain ⟨h1, h2⟩ := evs_sound hρ ps.toList hl
      obtain ⟨v, k1, k2⟩ := buildV_sound (P := P) (w := w) (vs := ps.map fun (i, x) => (i, ρ' x)) hT.ok (by simpa using h1) (by simp [h2]) hs
      exact ⟨v, k1, by simp only [execOp, hop]; simp [k2]⟩
    · cases hs
  case call c =>
    split at hs
    · rename_i hcal
      split at hs
      · rename_i x t hx ht
        split at hs
        · rename_i a ha
          obtain ⟨v, h1, h2⟩ := lenV_sound (w := w) (ty := o.type) hT.ok (hρ _ _ ha) hs
          refine ⟨v, h1, ?_⟩
          obtain ⟨callee, args, argTypes⟩ := c
          simp only at hcal hx ht
          subst hcal
          have e1 : args = #[x] := by rw [← Array.toArray_toList (xs := args), hx]
          have e2 : argTypes = #[t] := by rw [← Array.toArray_toList (xs := argTypes), ht]
          subst e1; subst e2
          simp [execOp, hop, resolve, invoke, builtin, h2]
        · cases hs
      · cases hs
    · rename_i hcal
      split at hs
      · rename_i x y hx
        split at hs
        · rename_i k a k' b ha hb
          simp only [Option.some.injEq] at hs; subst hs
          have ha := hρ _ _ ha
          have hb := hρ _ _ hb
          simp only [SV.den, Option.some.injEq] at ha hb
          obtain ⟨callee, args, argTypes⟩ := c
          simp only at hcal hx
          subst hcal
          have e1 : args = #[x, y] := by rw [← Array.toArray_toList (xs := args), hx]
          subst e1
          refine ⟨_, by simp only [SV.den]; rfl, ?_⟩
          simp [execOp, hop, resolve, invoke, builtin, Builtin.max_, ← ha, ← hb, Builtin.max2, mxI_den, Result.andThen]
        · cases hs
      · cases hs
    · rename_i hcal
      split at hs
      · rename_i x y hx
        split at hs
        · rename_i k a k' b ha hb
          simp only [Option.some.injEq] at hs; subst hs
          have ha := hρ _ _ ha
          have hb := hρ _ _ hb
          simp only [SV.den, Option.some.injEq] at ha hb
          obtain ⟨callee, args, argTypes⟩ := c
          simp only at hcal hx
          subst hcal
          have e1 : args = #[x, y] := by rw [← Array.toArray_toList (xs := args), hx]
          subst e1
          refine ⟨_, by simp only [SV.den]; rfl, ?_⟩
          simp [execOp, hop, resolve, invoke, builtin, Builtin.min_, ← ha, ← hb, Builtin.min2, mnI_den, Result.andThen]
        · cases hs
      · cases hs
    · cases hs
  case makeFunc fn first cap =>
    split at hs
    · rename_i f l hf hl
      simp only [Option.some.injEq] at hs; subst hs
      have h1 := evL0_sound hρ _ hl
      refine ⟨_, by simp only [SV.den, h1]; rfl, ?_⟩
      have e1 : first = #[] := by rw [← Array.toArray_toList (xs := first), hf]
      subst e1
      have e2 : cap.map ρ' = (cap.toList.map ρ').toArray := by apply Array.ext'; simp
      have e3 : (#[] : Array Operand).map ρ' = #[] := by apply Array.ext'; simp
      simp only [execOp, hop, Instr.makeFunc, Sem.run_bind, Sem.run_pure, Result.andThen, e2, e3]
    · cases hs
  case slice t x lo hi mx =>
    split at hs
    · rename_i sx l hh m hx hl hhi hm
      obtain ⟨v, h1, h2⟩ := sliceV_sound (w := w) hT.ok h (hρ _ _ hx) (evO_sound hρ hl) (evO_sound hρ hhi) (evO_sound hρ hm) hs
      exact ⟨v, h1, by simp [execOp, hop, h2]⟩
    · cases hs

/-! ### effects -/
/-- the cells of a slice, or a string: the first n elements -/
def srcV (rg : List Rg) (z : Nat) : SV → Option (List SV × Nat)
  | .osl r c n z' _ => match nth rg r with
    | some g => bif Nat.beq z z' && Nat.ble (c + n * z) g.cells.length then some ((g.cells.drop c).take (n * z), n) else none
    | none => none
  | .raw (.slice none 0 _) => some ([], 0)
  | .raw (.string s) => bif Nat.beq z 1 then some (s.data.toList.map (fun b => .int .u8 (.lit b.toNat)), s.data.toList.length) else none
  | _ => none

def appSrc (T : Tab) (rg : List Rg) (te : TI) (x : SV) (tx : Nat) : Option (List SV × Nat) :=
  match lookT T tx with
  | some ti => match ti.kind with
    | .int _ => match x with
      | .int _ (.lit l) => bif decide (0 ≤ l) then some (rep l.toNat te.zero, l.toNat) else none
      | _ => none
    | .slice _ => srcV rg te.size x
    | .string => srcV rg te.size x
    | _ => none
  | none => none

/-- 'append' -/
def appV (rg : List Rg) (te : TI) (s : SV) (new : List SV) (m : Nat) : Option (SV × List Rg) :=
  match s with
  | .raw (.slice none 0 0) => bif appOk te new 0 m then
      bif Nat.beq m 0 then some (s, rg) else some (.osl rg.length 0 m te.size none, rg ++ [⟨true, new, none⟩])
    else none
  | .osl r c n z k => match nth rg r with
    | some g => bif appOk te new n m && Nat.beq z te.size && Nat.ble (c + n * z) g.cells.length then
        match k with
        | some kk => bif Nat.ble (n + m) kk then
            bif Nat.beq m 0 then some (s, rg) else
            bif g.own && Nat.ble (c + (n + m) * z) g.cells.length then some (.osl r c (n + m) z k, rg.set r { g with cells := setRow g.cells (c + n * z) new }) else none
          else some (.osl rg.length 0 (n + m) z none, rg ++ [⟨true, (g.cells.drop c).take (n * z) ++ new, none⟩])
        | none => bif g.own then
            bif Nat.beq m 0 then some (s, rg) else some (.osl rg.length 0 (n + m) z none, rg.set r ⟨false, [], none⟩ ++ [⟨true, (g.cells.drop c).take (n * z) ++ new, none⟩])
          else none
      else none
    | none => none
  | _ => none
where appOk (te : TI) (new : List SV) (n m : Nat) : Bool :=
  Nat.blt 0 te.size && Nat.beq te.zero.length te.size && Nat.beq new.length (m * te.size) && new.all SV.one && Nat.ble ((2 * (n + m) + 256) * te.bytes) 281474976710656 && Nat.ble (n + m) 1099511627776

/-- 'copy' -/
def copyV (rg : List Rg) (te : TI) (d x : SV) : Option (SV × List Rg) :=
  match d with
  | .osl r c n z _ => match nth rg r, srcV rg te.size x with
    | some g, some (cs, m) => bif g.own && Nat.beq z te.size && Nat.beq cs.length (m * z) && cs.all SV.one && Nat.ble (c + min m n * z) g.cells.length then
        some (.int .i64 (.lit (min m n : Nat)), rg.set r { g with cells := setRow g.cells c (cs.take (min m n * z)) })
      else none
    | _, _ => none
  | _ => none

/-- an operation that makes a block, or writes one: what it yields; the regions behind it -/
def stepE (T : Tab) (rg : List Rg) (ρ : Operand → Option SV) (op : Op) : Option (SV × List Rg) :=
  match op with
  | .alloc t => match lookT T t with
    | some ti => some (.own rg.length 0, rg ++ [⟨true, ti.zero, none⟩])
    | none => none
  | .box _ x => match ρ x with
    | some (.tup _) => none
    | some (.big _) => none
    | some v => some (.own rg.length 0, rg ++ [⟨true, v.cells, none⟩])
    | none => none
  | .store t a x => match ρ a, ρ x, lookT T t with
    | some (.own r c), some v, some ti => match nth rg r with
      | some g => bif g.own && Nat.beq v.cells.length ti.size && Nat.ble (c + ti.size) g.cells.length && v.cells.all SV.one then
          some (.tup [], rg.set r { g with cells := setRow g.cells c v.cells })
        else none
      | none => none
    | _, _, _ => none
  | .buildSlice t len ps => match lookT T t with
    | some ti => match ti.kind with
      | .slice e => match lookT T e, evs ρ ps.toList with
        | some te, some l => bif Nat.blt 0 te.size && Nat.beq te.zero.length te.size && Nat.ble (len * te.size) 16777216 then
            match fillV (fun i => some (i * te.size, te.size)) (rep len te.zero) l with
            | some cs => some (.osl rg.length 0 len te.size (some len), rg ++ [⟨true, cs, none⟩])
            | none => none
          else none
        | _, _ => none
      | _ => none
    | none => none
  | .makeSlice t len cap => match lookT T t, ρ len, ρ cap with
    | some ti, some (.int _ (.lit n)), some (.int _ (.lit c)) => match ti.kind with
      | .slice e => match lookT T e with
        | some te => bif Nat.blt 0 te.size && Nat.beq te.zero.length te.size && decide (0 ≤ n) && decide (n ≤ c) && decide (c ≤ 1099511627776) && Nat.ble (te.bytes * c.toNat) 281474976710656 then
            some (.osl rg.length 0 n.toNat te.size (some c.toNat), rg ++ [⟨true, rep c.toNat te.zero, none⟩])
          else none
        | none => none
      | _ => none
    | _, _, _ => none
  | .call c => match c.callee with
    | .builtin .append => match c.args.toList, c.argTypes.toList with
      | [s, x], [ts, tx] => match ρ s, ρ x, lookT T ts with
        | some s, some x, some ti => match ti.kind with
          | .slice e => match lookT T e with
            | some te => match appSrc T rg te x tx with
              | some (new, m) => appV rg te s new m
              | none => none
            | none => none
          | _ => none
        | _, _, _ => none
      | _, _ => none
    | .builtin .copy => match c.args.toList, c.argTypes.toList with
      | [d, x], [td, _] => match ρ d, ρ x, lookT T td with
        | some d, some x, some ti => match ti.kind with
          | .slice e => match lookT T e with
            | some te => copyV rg te d x
            | none => none
          | _ => none
        | _, _, _ => none
      | _, _ => none
    | _ => none
  | _ => none

theorem setRow_end : ∀ (l r : List SV), setRow l l.length r = l ++ r
  | l, [] => by simp [setRow]
  | l, s :: r => by
    have h : ∀ (l : List SV), putAt l l.length s = l ++ [s] := by
      intro l
      induction l with
      | nil => rfl
      | cons x l ih => simp [putAt, ih]
    rw [setRow, h]
    have := setRow_end (l ++ [s]) r
    simp only [List.length_append, List.length_cons, List.length_nil] at this
    rw [this]; simp

theorem buildSlice_sound {P : Program} (hT : Tab.ok P T) (h : Sat E N rg w) {t e len : Nat} {ti te : TI} {ps : List (Nat × SV)} {vs : Array (Nat × Value)} {cs : List SV} (ht : lookT T t = some ti) (hk : ti.kind = .slice e) (hte : lookT T e = some te)
    (hb : (Nat.blt 0 te.size && Nat.beq te.zero.length te.size && Nat.ble (len * te.size) 16777216) = true)
    (hv : ∀ (j : Nat) (p : Nat × SV), ps[j]? = some p → ∃ v, p.2.den N = some v ∧ vs.toList[j]? = some (p.1, v)) (hl : vs.toList.length = ps.length) (hf : fillV (fun i => some (i * te.size, te.size)) (rep len te.zero) ps = some cs) :
    ∃ N' x w', N.le N' ∧ (SV.osl rg.length 0 len te.size (some len)).den N' = some x ∧ (Instr.buildSlice t len vs).run P w = .ok x w' ∧ Sat E N' (rg ++ [⟨true, cs, none⟩]) w' := by
  simp only [Bool.and_eq_true] at hb
  obtain ⟨⟨b1, b2⟩, b3⟩ := hb
  have b1 : 0 < te.size := by simpa using b1
  have b2 := Nat.eq_of_beq_eq_true b2
  have b3 := Nat.le_of_ble_eq_true b3
  have ok := (hT t ti ht).kind
  rw [hk] at ok
  have ok' : P.underlying t = some (.slice e) := ok
  have oke := hT e te hte
  obtain ⟨z, hz, hzd⟩ := oke.zero
  have hzd' : SV.denL N te.zero = some z.cells.toList := SV.denL_mono (N := []) (N' := N) (fun r p h => by simp at h) _ hzd
  have hzs : z.cells.size = te.size := by have := (SV.denL_get _ hzd').1; simp at this; omega
  obtain ⟨q, hq1, hq2⟩ := fillV_sound ps vs.toList (m := (repV len z.cells.toList).toArray) (by simpa using denL_rep hzd' len) hv hl hf
  have hrun := run_buildSlice (P := P) (w := w) (parts := vs) (q := q) (zero := z) (len := len) ok' (fun w => by rw [hzs]; exact oke.size w) hz (by omega) (by rw [hzs]; exact b3) (by rw [hzs]; exact hq2)
  have hS := h.alloc hq1 e
  rw [Array.toArray_toList] at hS
  refine ⟨_, _, _, Nums.le_append _ _, ?_, hrun, hS⟩
  have : (N ++ [⟨w.heap.size, 0, q.toList.length⟩])[rg.length]? = some ⟨w.heap.size, 0, q.toList.length⟩ := by rw [← h.len]; simp
  simp only [SV.den, this, Num.cap]

theorem makeSlice_sound {P : Program} (hT : Tab.ok P T) (h : Sat E N rg w) {t e : Nat} {n c : Int} {k k' : IntKind} {ti te : TI} (ht : lookT T t = some ti) (hk : ti.kind = .slice e) (hte : lookT T e = some te)
    (hb : (Nat.blt 0 te.size && Nat.beq te.zero.length te.size && decide (0 ≤ n) && decide (n ≤ c) && decide (c ≤ 1099511627776) && Nat.ble (te.bytes * c.toNat) 281474976710656) = true) :
    ∃ N' x w', N.le N' ∧ (SV.osl rg.length 0 n.toNat te.size (some c.toNat)).den N' = some x ∧ (Instr.makeSlice t (.int k n) (.int k' c)).run P w = .ok x w' ∧ Sat E N' (rg ++ [⟨true, Eng.rep c.toNat te.zero, none⟩]) w' := by
  simp only [Bool.and_eq_true, decide_eq_true_eq] at hb
  obtain ⟨⟨⟨⟨⟨b1, b2⟩, b3⟩, b4⟩, b5⟩, b6⟩ := hb
  have b1 : 0 < te.size := by simpa using b1
  have b2 := Nat.eq_of_beq_eq_true b2
  have b6 := Nat.le_of_ble_eq_true b6
  obtain ⟨n, rfl⟩ := Int.eq_ofNat_of_zero_le b3
  obtain ⟨c, rfl⟩ := Int.eq_ofNat_of_zero_le (show 0 ≤ c by omega)
  have ok := (hT t ti ht).kind
  rw [hk] at ok
  have ok' : P.underlying t = some (.slice e) := ok
  have oke := hT e te hte
  obtain ⟨z, hz, hzd⟩ := oke.zero
  obtain ⟨i, hi, hib⟩ := oke.info
  have hzd' : SV.denL N te.zero = some z.cells.toList := SV.denL_mono (N := []) (N' := N) (fun r p h => by simp at h) _ hzd
  have hzs : z.cells.size = te.size := by have := (SV.denL_get _ hzd').1; simp at this; omega
  simp only [Int.toNat_natCast] at b6 ⊢
  have hrun := run_makeSlice (P := P) (w := w) (zero := z) (len := n) (cap := c) (k := k) (k' := k') ok' hi (fun w => by rw [hzs]; exact oke.size w) hz (by omega) (by omega) (by omega) (by rw [hib]; exact b6)
  have hS := h.alloc (denL_rep hzd' c) e
  refine ⟨_, _, _, Nums.le_append _ _, ?_, hrun, hS⟩
  have : (N ++ [⟨w.heap.size, 0, (repV c z.cells.toList).length⟩])[rg.length]? = some ⟨w.heap.size, 0, (repV c z.cells.toList).length⟩ := by rw [← h.len]; simp
  simp only [SV.den, this, Num.cap]

theorem srcV_sound {P : Program} (h : Vis N rg w) {z m : Nat} {x : SV} {v : Value} {cs : List SV} (hx : x.den N = some v) (hs : srcV rg z x = some (cs, m)) :
    (∀ w, (Builtin.lenOf v).run P w = .ok m w) ∧ ∃ vs, SV.denL N cs = some vs ∧ cs.length = m * z ∧ ∀ w', w'.heap = w.heap → ∀ n, n ≤ m → (Builtin.firstCells z n v).run P w' = .ok (vs.take (n * z)).toArray w' := by
  unfold srcV at hs
  split at hs
  · rename_i r c n z' k
    split at hs
    · rename_i g hg
      rw [nth_eq] at hg
      cases hb : (Nat.beq z z' && Nat.ble (c + n * z) g.cells.length) with
      | false => rw [hb] at hs; simp at hs
      | true =>
        rw [hb] at hs
        simp only [cond_true, Option.some.injEq, Prod.mk.injEq] at hs
        obtain ⟨rfl, rfl⟩ := hs
        rw [Bool.and_eq_true] at hb
        have b1 := Nat.eq_of_beq_eq_true hb.1
        have b2 := Nat.le_of_ble_eq_true hb.2
        subst b1
        simp only [SV.den] at hx
        cases hp : N[r]? with
        | none => simp [hp] at hx
        | some p =>
          simp only [hp, Option.some.injEq] at hx; subst hx
          refine ⟨fun w => rfl, ?_⟩
          obtain ⟨p1, l, hp1, hd, hlen, _⟩ := h.load (P := P) hg b2
          rw [hp] at hp1; cases hp1
          refine ⟨l, hd, by simp; omega, fun w' hw' n' hn' => ?_⟩
          have hle : n' * z ≤ n * z := Nat.mul_le_mul_right _ hn'
          have hV' : Vis N rg w' := ⟨h.len, fun r g p hg hp j c hj => by
            obtain ⟨v, h1, h2⟩ := h.cell r g p hg hp j c hj
            exact ⟨v, h1, by unfold World.cell? at h2 ⊢; rw [hw']; exact h2⟩, h.ext⟩
          obtain ⟨p2, l', hp2, hd', hlen', hrun⟩ := hV'.load (P := P) (c := c) (n := n' * z) hg (by omega)
          rw [hp] at hp2; cases hp2
          simp only [Builtin.firstCells]
          rw [hrun]
          congr 2
          have h3 : ((g.cells.drop c).take (n * z)).take (n' * z) = (g.cells.drop c).take (n' * z) := by rw [List.take_take, Nat.min_eq_left hle]
          have h4 := denL_take_drop hd 0 (n' * z)
          simp only [List.drop_zero] at h4
          rw [h3, hd'] at h4
          cases h4; rfl
    · cases hs
  · simp only [Option.some.injEq, Prod.mk.injEq] at hs
    obtain ⟨rfl, rfl⟩ := hs
    simp only [SV.den, one?, if_true, Option.some.injEq] at hx; subst hx
    refine ⟨fun w => rfl, [], rfl, by simp, fun w' hw' n hn => ?_⟩
    simp [Builtin.firstCells]
  · rename_i s
    cases hb : Nat.beq z 1 with
    | false => rw [hb] at hs; simp at hs
    | true =>
      rw [hb] at hs
      simp only [cond_true, Option.some.injEq, Prod.mk.injEq] at hs
      obtain ⟨rfl, rfl⟩ := hs
      have hb := Nat.eq_of_beq_eq_true hb
      subst hb
      simp only [SV.den, one?, if_true, Option.some.injEq] at hx; subst hx
      have hden : ∀ l : List UInt8, SV.denL N (l.map (fun b => SV.int .u8 (.lit b.toNat))) = some (l.map (fun b => Value.int .u8 b.toNat)) := by
        intro l
        induction l with
        | nil => rfl
        | cons b l ih => simp [SV.denL, SV.den, SI.den, ih]
      refine ⟨fun w => rfl, _, hden _, by simp, fun w' hw' n hn => ?_⟩
      simp only [Builtin.firstCells, Sem.run_pure]
      congr 1
      apply Array.ext'
      simp [ByteArray.data_extract]
  · cases hs

/-- what is appended, in the model -/
theorem appSrc_sound {P : Program} (hT : Tab.ok P T) (h : Vis N rg w) {te : TI} {zero : Value} (hzd : SV.denL N te.zero = some zero.cells.toList) (hzs : te.zero.length = te.size) {x : SV} {v : Value} {tx m : Nat} {cs : List SV} (hx : x.den N = some v) (hm : m ≤ 1099511627776) (hs : appSrc T rg te x tx = some (cs, m)) :
    ∃ vs, SV.denL N cs = some vs ∧ cs.length = m * te.size ∧ Src P te.size te.bytes zero tx v m vs ∧ ∀ w', w'.heap = w.heap → (¬ ∃ k, P.underlying tx = some (.int k)) → (Builtin.firstCells te.size m v).run P w' = .ok vs.toArray w' := by
  unfold appSrc at hs
  split at hs
  · rename_i ti ht
    have ok := (hT tx ti ht).kind
    have fin : ∀ d, P.underlying tx = some d → (∀ k, d ≠ .int k) → srcV rg te.size x = some (cs, m) →
        ∃ vs, SV.denL N cs = some vs ∧ cs.length = m * te.size ∧ Src P te.size te.bytes zero tx v m vs ∧ ∀ w', w'.heap = w.heap → (¬ ∃ k, P.underlying tx = some (.int k)) → (Builtin.firstCells te.size m v).run P w' = .ok vs.toArray w' := by
      intro d hd hdn hs
      obtain ⟨h1, vs, h2, h3, h4⟩ := srcV_sound (P := P) h hx hs
      refine ⟨vs, h2, h3, ⟨.inr ⟨⟨d, hd, hdn⟩, h1⟩, hm⟩, fun w' hw' _ => ?_⟩
      have := h4 w' hw' m (Nat.le_refl _)
      rw [List.take_of_length_le (by rw [(SV.denL_get _ h2).1, h3]; exact Nat.le_refl _)] at this
      exact this
    split at hs
    · rename_i k hk
      rw [hk] at ok
      split at hs
      · rename_i k' l
        cases hb : decide (0 ≤ l) with
        | false => rw [hb] at hs; simp at hs
        | true =>
          rw [hb] at hs
          simp only [cond_true, Option.some.injEq, Prod.mk.injEq] at hs
          obtain ⟨rfl, rfl⟩ := hs
          simp only [decide_eq_true_eq] at hb
          simp only [SV.den, SI.den, Option.some.injEq] at hx; subst hx
          have hlen : ∀ n, (Eng.rep n te.zero).length = n * te.zero.length := by
            intro n
            induction n with
            | zero => simp [Eng.rep]
            | succ n ih => simp [Eng.rep, ih, Nat.add_mul]; omega
          exact ⟨_, denL_rep hzd _, by rw [hlen, hzs], ⟨.inl ⟨k, k', ok, by rw [Int.toNat_of_nonneg hb], rfl⟩, hm⟩, fun w' _ hn => absurd ⟨k, ok⟩ hn⟩
      · cases hs
    · rename_i e hk
      rw [hk] at ok
      exact fin _ ok (by simp) hs
    · rename_i hk
      rw [hk] at ok
      exact fin _ ok (by simp) hs
    · cases hs
  · cases hs

theorem Sat.retire {E : Env} {N : Nums} {rg : List Rg} {w : World} (h : Sat E N rg w) {r : Nat} (hr : r < rg.length) : Sat E N (rg.set r ⟨false, [], none⟩) w := by
  have part : ∀ (i : Nat) (x : Rg), (rg.set r ⟨false, [], none⟩)[i]? = some x → x = ⟨false, [], none⟩ ∨ rg[i]? = some x := by
    intro i x hx
    rcases get_set hr hx with ⟨_, rfl⟩ | ⟨_, hx⟩
    · exact .inl rfl
    · exact .inr hx
  refine ⟨by simpa using h.len, h.lt, ?_, ?_, ?_, ?_, ?_, ?_, h.imm, ?_, ?_, h.dlt, h.loc, h.res, h.chg, ?_⟩
  · intro i x q hx hq j d hj
    rcases part i x hx with rfl | hx
    · simp at hj
    · exact h.cell i x q hx hq j d hj
  · intro i x q hx hq ho
    rcases part i x hx with rfl | hx
    · simp at ho
    · exact h.ext i x q hx hq ho
  · intro i x q hx hq ho
    rcases part i x hx with rfl | hx
    · simp at ho
    · exact h.room i x q hx hq ho
  · intro i i' x x' q q' hx hq hx' hq' ho hne j hj
    rcases part i x hx with rfl | hx
    · simp at ho
    · rcases part i' x' hx' with rfl | hx'
      · simp [Rg.wid] at hj
      · exact h.disj i i' x x' q q' hx hq hx' hq' ho hne j hj
  · intro i x q ob hx hq ho
    rcases part i x hx with rfl | hx
    · simp at ho
    · exact h.obj i x q ob hx hq ho
  · intro i i' x x' q q' hx hq hx' hq' ho ho' hne
    rcases part i x hx with rfl | hx
    · simp at ho
    · rcases part i' x' hx' with rfl | hx'
      · simp at ho'
      · exact h.odisj i i' x x' q q' hx hq hx' hq' ho ho' hne
  · intro i x q hx hq ho
    rcases part i x hx with rfl | hx
    · simp at ho
    · exact h.imd i x q hx hq ho
  · intro i x q hx hq ho
    rcases part i x hx with rfl | hx
    · simp at ho
    · exact h.dd i x q hx hq ho
  · intro i x q hx hq ho
    rcases part i x hx with rfl | hx
    · simp at ho
    · exact h.foot i x q hx hq ho

theorem one_cells {l : List Value} : ∀ {cs : List SV}, cs.all SV.one = true → SV.denL N cs = some l → ∀ v ∈ l, one? v = true := by
  intro cs hc hl v hv
  obtain ⟨hlen, hget⟩ := SV.denL_get _ hl
  obtain ⟨j, hj⟩ := List.mem_iff_getElem?.1 hv
  have hjl : j < cs.length := by rw [← hlen]; exact (List.getElem?_eq_some_iff.1 hj).1
  obtain ⟨c, hcj⟩ : ∃ c, cs[j]? = some c := ⟨_, List.getElem?_eq_getElem hjl⟩
  obtain ⟨u, h1, h2⟩ := hget j c hcj
  rw [hj] at h2; cases h2
  exact (SV.one_spec (List.all_eq_true.1 hc c (List.mem_of_getElem? hcj)) h1).1

/-- 'append', in the model -/
theorem appV_sound {P : Program} (hE : E.P = P) (hT : Tab.ok P T) (h : Sat E N rg w) {ta : Array Nat} {ty ts tx e m : Nat} {ti te : TI} {s x r : SV} {vs vx : Value} {new : List SV} {rg' : List Rg} (h0 : ta[0]? = some ts) (h1 : ta[1]? = some tx)
    (ht : lookT T ts = some ti) (hk : ti.kind = .slice e) (hte : lookT T e = some te) (hs : s.den N = some vs) (hx : x.den N = some vx) (ha : appSrc T rg te x tx = some (new, m)) (hr : appV rg te s new m = some (r, rg')) :
    ∃ N' v w', N.le N' ∧ r.den N' = some v ∧ (Builtin.append_ ta ty #[vs, vx]).run P w = .ok v w' ∧ Sat E N' rg' w' := by
  subst hE
  have ok := (hT ts ti ht).kind
  rw [hk] at ok
  have ok' : E.P.underlying ts = some (.slice e) := ok
  have oke := hT e te hte
  obtain ⟨z, hz, hzd⟩ := oke.zero
  obtain ⟨i, hi, hib⟩ := oke.info
  have hzd' : SV.denL N te.zero = some z.cells.toList := SV.denL_mono (N := []) (N' := N) (fun r p h => by simp at h) _ hzd
  -- what is asked of the parts
  have asked : ∀ n, appV.appOk te new n m = true → 0 < te.size ∧ te.zero.length = te.size ∧ z.cells.size = te.size ∧ new.length = m * te.size ∧ new.all SV.one = true ∧ (2 * (n + m) + 256) * i.bytes ≤ 281474976710656 ∧ n + m ≤ 1099511627776 := by
    intro n hn
    unfold appV.appOk at hn
    simp only [Bool.and_eq_true] at hn
    obtain ⟨⟨⟨⟨⟨b1, b2⟩, b3⟩, b4⟩, b5⟩, b6⟩ := hn
    have b1 : 0 < te.size := by simpa using b1
    have b2 := Nat.eq_of_beq_eq_true b2
    refine ⟨b1, b2, ?_, Nat.eq_of_beq_eq_true b3, b4, by rw [hib]; exact Nat.le_of_ble_eq_true b5, Nat.le_of_ble_eq_true b6⟩
    have := (SV.denL_get _ hzd').1
    simp at this; omega
  -- in a new block
  have fresh : ∀ (rg0 : List Rg) (old : List SV) (ol ws rest : List Value) (n K : Nat), rg0.length = rg.length → (∀ w, Sat E N rg w → Sat E N rg0 w) → SV.denL N old = some ol → SV.denL N new = some ws → old.length = n * te.size → new.length = m * te.size → 0 < te.size → n + m ≤ K →
      rest.length = (K - (n + m)) * te.size →
      ∃ N', N.le N' ∧ (SV.osl rg.length 0 (n + m) te.size none).den N' = some (.slice (some ⟨w.heap.size, 0, none⟩) (n + m) K) ∧ Sat E N' (rg0 ++ [⟨true, old ++ new, none⟩]) (w.drew.alloc (.cells (ol ++ ws ++ rest).toArray e)) := by
    intro rg0 old ol ws rest n K hlen hrg ho hn hol hnl hz0 hK hrest
    have hS := (hrg _ h.drew).allocX (m := rest) (SV.denL_append old new ho hn) e
    refine ⟨_, Nums.le_append _ _, ?_, hS⟩
    have hx : (ol ++ ws ++ rest).length = K * te.size := by
      have e1 := (SV.denL_get _ ho).1
      have e2 := (SV.denL_get _ hn).1
      simp only [List.length_append, e1, e2, hol, hnl, hrest]
      rw [← Nat.add_mul, ← Nat.add_mul]
      congr 1; omega
    have hg : (N ++ [(⟨w.drew.heap.size, 0, (ol ++ ws ++ rest).length⟩ : Num)])[rg.length]? = some ⟨w.heap.size, 0, K * te.size⟩ := by rw [← h.len, hx]; simp
    simp only [SV.den, hg, Num.cap, Nat.sub_zero, Nat.mul_div_cancel _ hz0]
  unfold appV at hr
  split at hr
  · -- onto nil
    simp only [SV.den, one?, if_true, Option.some.injEq] at hs; subst hs
    cases hb : appV.appOk te new 0 m with
    | false => rw [hb] at hr; simp at hr
    | true =>
      rw [hb] at hr
      simp only [cond_true] at hr
      obtain ⟨z0, z1, z2, z3, z4, z5, z6⟩ := asked 0 hb
      obtain ⟨ws, hw1, hw2, hw3, hw4⟩ := appSrc_sound (P := E.P) hT h.vis hzd' z1 hx (by omega) ha
      rw [← hib, ← z2] at hw3
      have hrun := run_append (P := E.P) (w := w) (ta := ta) (ty := ty) (zero := z) (s := .slice none 0 0) (x := vx) (base := none) (n := 0) (cap := 0) (m := m) (old := []) (vs := ws) (wf := w) h0 h1 ok' hi (fun w => by rw [z2]; exact oke.size w) hz (by omega) rfl hw3 z5 z6
        (fun w' e1 e2 => by rw [z2]; exact hw4 w' e1 e2) (fun _ w' _ => by simp [Builtin.firstCells]) (fun _ => rfl)
      cases hm : Nat.beq m 0 with
      | true =>
        rw [hm] at hr
        simp only [cond_true, Option.some.injEq, Prod.mk.injEq] at hr
        obtain ⟨rfl, rfl⟩ := hr
        have hm := Nat.eq_of_beq_eq_true hm
        subst hm
        exact ⟨N, _, w, Nums.le.refl N, by simp only [SV.den, one?, if_true], hrun.1 (by omega), h⟩
      | false =>
        rw [hm] at hr
        simp only [cond_false, Option.some.injEq, Prod.mk.injEq] at hr
        obtain ⟨rfl, rfl⟩ := hr
        have hm0 : m ≠ 0 := fun e => by rw [e] at hm; simp at hm
        obtain ⟨K, rest, hK, hrest, hrun⟩ := hrun.2 (by omega)
        rw [z2] at hrest
        obtain ⟨N', k1, k2, k3⟩ := fresh rg [] [] ws rest 0 K rfl (fun _ h => h) rfl hw1 (by simp) z3 z0 hK hrest
        refine ⟨N', _, _, k1, ?_, hrun, by simpa using k3⟩
        simpa using k2
  · rename_i r0 c n z' k
    split at hr
    · rename_i g hg
      rw [nth_eq] at hg
      cases hb : (appV.appOk te new n m && Nat.beq z' te.size && Nat.ble (c + n * z') g.cells.length) with
      | false => rw [hb] at hr; simp at hr
      | true =>
        rw [hb] at hr
        simp only [cond_true] at hr
        rw [Bool.and_eq_true, Bool.and_eq_true] at hb
        obtain ⟨⟨b1, b2⟩, b3⟩ := hb
        have b2 := Nat.eq_of_beq_eq_true b2
        have b3 := Nat.le_of_ble_eq_true b3
        subst b2
        obtain ⟨z0, z1, z2, z3, z4, z5, z6⟩ := asked n b1
        obtain ⟨ws, hw1, hw2, hw3, hw4⟩ := appSrc_sound (P := E.P) hT h.vis hzd' z1 hx (by omega) ha
        rw [← hib, ← z2] at hw3
        have hs0 := hs
        simp only [SV.den] at hs
        cases hp : N[r0]? with
        | none => simp [hp] at hs
        | some p =>
          simp only [hp, Option.some.injEq] at hs
          have hrl : r0 < rg.length := (List.getElem?_eq_some_iff.1 hg).1
          obtain ⟨_, ol, hp1, hol, hll, _⟩ := h.vis.load (P := E.P) hg b3
          rw [hp] at hp1; cases hp1
          have holdr : ∀ w', w'.heap = w.heap → (Builtin.firstCells te.size n vs).run E.P w' = .ok ol.toArray w' := by
            intro w' hw'
            obtain ⟨_, vs', q1, q2, q3⟩ := srcV_sound (P := E.P) h.vis (z := te.size) (m := n) (cs := (g.cells.drop c).take (n * te.size)) hs0 (by
              have : Nat.ble (c + n * te.size) g.cells.length = true := Nat.ble_eq_true_of_le b3
              simp only [srcV, nth_eq, hg, Nat.beq_refl, Bool.true_and, this, cond_true])
            have := q3 w' hw' n (Nat.le_refl _)
            rw [hol] at q1; cases q1
            rw [List.take_of_length_le (by omega)] at this
            exact this
          have hoc : ((g.cells.drop c).take (n * te.size)).length = n * te.size := by simp; omega
          cases k with
          | some kk =>
            simp only at hr
            simp only [Num.cap] at hs
            subst hs
            cases hf : Nat.ble (n + m) kk with
            | true =>
              rw [hf] at hr
              simp only [cond_true] at hr
              have hf := Nat.le_of_ble_eq_true hf
              cases hm : Nat.beq m 0 with
              | true =>
                rw [hm] at hr
                simp only [cond_true, Option.some.injEq, Prod.mk.injEq] at hr
                obtain ⟨rfl, rfl⟩ := hr
                have hm := Nat.eq_of_beq_eq_true hm
                subst hm
                have hnil : new = [] := List.eq_nil_of_length_eq_zero (by rw [z3]; simp)
                subst hnil
                simp only [SV.denL, Option.some.injEq] at hw1; subst hw1
                have hrun := run_append (P := E.P) (w := w) (ta := ta) (ty := ty) (zero := z) (s := .slice (some ⟨p.b, p.o + c, none⟩) n kk) (x := vx) (n := n) (cap := kk) (m := 0) (old := ol) (vs := []) (wf := w) h0 h1 ok' hi (fun w => by rw [z2]; exact oke.size w) hz (by omega) rfl hw3 z5 z6
                  (fun w' e1 e2 => by rw [z2]; exact hw4 w' e1 e2) (fun _ w' e1 => by rw [z2]; exact holdr w' e1) (fun _ => rfl)
                exact ⟨N, _, w, Nums.le.refl N, by simp only [SV.den, hp, Num.cap]; rfl, hrun.1 (by omega), h⟩
              | false =>
                rw [hm] at hr
                simp only [cond_false] at hr
                cases hb : (g.own && Nat.ble (c + (n + m) * te.size) g.cells.length) with
                | false => rw [hb] at hr; simp at hr
                | true =>
                  rw [hb] at hr
                  simp only [cond_true, Option.some.injEq, Prod.mk.injEq] at hr
                  obtain ⟨rfl, rfl⟩ := hr
                  rw [Bool.and_eq_true] at hb
                  have hle := Nat.le_of_ble_eq_true hb.2
                  rw [Nat.add_mul] at hle
                  have hext := h.ext r0 g p hg hp hb.1
                  obtain ⟨w', hst, hsat⟩ := Sat.store hp (c + n * te.size) new ws 0 h hg hb.1 (by omega) (by omega) hw1 (one_cells z4 hw1)
                  have hrun := run_append (P := E.P) (w := w) (ta := ta) (ty := ty) (zero := z) (s := .slice (some ⟨p.b, p.o + c, none⟩) n kk) (x := vx) (n := n) (cap := kk) (m := m) (old := ol) (vs := ws) (wf := w') h0 h1 ok' hi (fun w => by rw [z2]; exact oke.size w) hz (by omega) rfl hw3 z5 z6
                    (fun w' e1 e2 => by rw [z2]; exact hw4 w' e1 e2) (fun _ w' e1 => by rw [z2]; exact holdr w' e1) (fun _ => by simp only [addr_add, z2, Nat.add_assoc]; exact hst)
                  exact ⟨N, _, w', Nums.le.refl N, by simp only [SV.den, hp, Num.cap], hrun.1 hf, by simpa using hsat⟩
            | false =>
              rw [hf] at hr
              simp only [cond_false, Option.some.injEq, Prod.mk.injEq] at hr
              obtain ⟨rfl, rfl⟩ := hr
              have hf : kk < n + m := by
                rcases Nat.lt_or_ge kk (n + m) with q | q
                · exact q
                · rw [Nat.ble_eq_true_of_le q] at hf; cases hf
              have hrun := run_append (P := E.P) (w := w) (ta := ta) (ty := ty) (zero := z) (s := .slice (some ⟨p.b, p.o + c, none⟩) n kk) (x := vx) (n := n) (cap := kk) (m := m) (old := ol) (vs := ws) (wf := w) h0 h1 ok' hi (fun w => by rw [z2]; exact oke.size w) hz (by omega) rfl hw3 z5 z6
                (fun w' e1 e2 => by rw [z2]; exact hw4 w' e1 e2) (fun _ w' e1 => by rw [z2]; exact holdr w' e1) (fun hle => by omega)
              obtain ⟨K, rest, hK, hrest, hrun⟩ := hrun.2 hf
              rw [z2] at hrest
              obtain ⟨N', k1, k2, k3⟩ := fresh rg _ ol ws rest n K rfl (fun _ h => h) hol hw1 hoc z3 z0 hK hrest
              exact ⟨N', _, _, k1, k2, hrun, k3⟩
          | none =>
            simp only at hr
            simp only [Num.cap] at hs
            subst hs
            cases hgo : g.own with
            | false => rw [hgo] at hr; simp at hr
            | true =>
              rw [hgo] at hr
              simp only [cond_true] at hr
              have hext := h.ext r0 g p hg hp hgo
              have hncap : n ≤ (p.x - c) / te.size := by rw [Nat.le_div_iff_mul_le z0]; omega
              cases hm : Nat.beq m 0 with
              | true =>
                rw [hm] at hr
                simp only [cond_true, Option.some.injEq, Prod.mk.injEq] at hr
                obtain ⟨rfl, rfl⟩ := hr
                have hm := Nat.eq_of_beq_eq_true hm
                subst hm
                have hnil : new = [] := List.eq_nil_of_length_eq_zero (by rw [z3]; simp)
                subst hnil
                simp only [SV.denL, Option.some.injEq] at hw1; subst hw1
                have hrun := run_append (P := E.P) (w := w) (ta := ta) (ty := ty) (zero := z) (s := .slice (some ⟨p.b, p.o + c, none⟩) n ((p.x - c) / te.size)) (x := vx) (n := n) (m := 0) (old := ol) (vs := []) (wf := w) h0 h1 ok' hi (fun w => by rw [z2]; exact oke.size w) hz (by omega) rfl hw3 z5 z6
                  (fun w' e1 e2 => by rw [z2]; exact hw4 w' e1 e2) (fun _ w' e1 => by rw [z2]; exact holdr w' e1) (fun _ => rfl)
                exact ⟨N, _, w, Nums.le.refl N, by simp only [SV.den, hp, Num.cap]; rfl, hrun.1 (by omega), h⟩
              | false =>
                rw [hm] at hr
                simp only [cond_false, Option.some.injEq, Prod.mk.injEq] at hr
                obtain ⟨rfl, rfl⟩ := hr
                by_cases hf : n + m ≤ (p.x - c) / te.size
                · -- in place
                  have hroom : (n + m) * te.size ≤ p.x - c := by rwa [Nat.le_div_iff_mul_le z0] at hf
                  have hcut := h.cut hg hp hgo b3
                  have hle : N.le (N ++ [(⟨p.b, p.o + c, p.x - c⟩ : Num)]) := Nums.le_append _ _
                  have hp' : (N ++ [(⟨p.b, p.o + c, p.x - c⟩ : Num)])[rg.length]? = some ⟨p.b, p.o + c, p.x - c⟩ := by rw [← h.len]; simp
                  have hg' : (rg.set r0 ⟨false, [], none⟩ ++ [(⟨true, (g.cells.drop c).take (n * te.size), none⟩ : Rg)])[rg.length]? = some ⟨true, (g.cells.drop c).take (n * te.size), none⟩ := by
                    rw [List.getElem?_append_right (by simp)]; simp
                  rw [Nat.add_mul] at hroom
                  obtain ⟨w', hst, hsat⟩ := Sat.store hp' (n * te.size) new ws 0 hcut hg' rfl (by simp only [hoc]; omega) (by simp only; omega) (SV.denL_mono hle _ hw1) (one_cells z4 hw1)
                  have hrun := run_append (P := E.P) (w := w) (ta := ta) (ty := ty) (zero := z) (s := .slice (some ⟨p.b, p.o + c, none⟩) n ((p.x - c) / te.size)) (x := vx) (n := n) (m := m) (old := ol) (vs := ws) (wf := w') h0 h1 ok' hi (fun w => by rw [z2]; exact oke.size w) hz (by omega) rfl hw3 z5 z6
                    (fun w' e1 e2 => by rw [z2]; exact hw4 w' e1 e2) (fun _ w' e1 => by rw [z2]; exact holdr w' e1) (fun _ => by simp only [addr_add, z2]; exact hst)
                  refine ⟨_, _, w', hle, ?_, hrun.1 hf, ?_⟩
                  · simp only [SV.den, hp', Num.cap, Nat.add_zero, Nat.sub_zero]
                  · have e1 : setRow ((g.cells.drop c).take (n * te.size)) (n * te.size + 0) new = (g.cells.drop c).take (n * te.size) ++ new := by
                      have := setRow_end ((g.cells.drop c).take (n * te.size)) new
                      rwa [hoc] at this
                    simp only [e1] at hsat
                    rw [List.set_append_right _ _ (by simp)] at hsat
                    simpa using hsat
                · have hf : (p.x - c) / te.size < n + m := by omega
                  have hrun := run_append (P := E.P) (w := w) (ta := ta) (ty := ty) (zero := z) (s := .slice (some ⟨p.b, p.o + c, none⟩) n ((p.x - c) / te.size)) (x := vx) (n := n) (m := m) (old := ol) (vs := ws) (wf := w) h0 h1 ok' hi (fun w => by rw [z2]; exact oke.size w) hz (by omega) rfl hw3 z5 z6
                    (fun w' e1 e2 => by rw [z2]; exact hw4 w' e1 e2) (fun _ w' e1 => by rw [z2]; exact holdr w' e1) (fun hle => by omega)
                  obtain ⟨K, rest, hK, hrest, hrun⟩ := hrun.2 hf
                  rw [z2] at hrest
                  obtain ⟨N', k1, k2, k3⟩ := fresh (rg.set r0 ⟨false, [], none⟩) _ ol ws rest n K (by simp) (fun _ h => h.retire hrl) hol hw1 hoc z3 z0 hK hrest
                  exact ⟨N', _, _, k1, k2, hrun, k3⟩
    · cases hr
  · cases hr

/-- 'copy', in the model -/
theorem copyV_sound {P : Program} (hE : E.P = P) (hT : Tab.ok P T) (h : Sat E N rg w) {ta : Array Nat} {ty td e : Nat} {ti te : TI} {d x r : SV} {vd vx : Value} {rg' : List Rg} (h0 : ta[0]? = some td)
    (ht : lookT T td = some ti) (hk : ti.kind = .slice e) (hte : lookT T e = some te) (hd : d.den N = some vd) (hx : x.den N = some vx) (hr : copyV rg te d x = some (r, rg')) :
    ∃ v w', r.den N = some v ∧ (Builtin.copy_ ta ty #[vd, vx]).run P w = .ok v w' ∧ Sat E N rg' w' := by
  subst hE
  have ok := (hT td ti ht).kind
  rw [hk] at ok
  have ok' : E.P.underlying td = some (.slice e) := ok
  have oke := hT e te hte
  unfold copyV at hr
  split at hr
  · rename_i r0 c n z k
    split at hr
    · rename_i g cs m hg hsrc
      rw [nth_eq] at hg
      cases hb : (g.own && Nat.beq z te.size && Nat.beq cs.length (m * z) && cs.all SV.one && Nat.ble (c + min m n * z) g.cells.length) with
      | false => rw [hb] at hr; simp at hr
      | true =>
        rw [hb] at hr
        simp only [cond_true, Option.some.injEq, Prod.mk.injEq] at hr
        obtain ⟨rfl, rfl⟩ := hr
        simp only [Bool.and_eq_true] at hb
        obtain ⟨⟨⟨⟨b1, b2⟩, b3⟩, b4⟩, b5⟩ := hb
        have b2 := Nat.eq_of_beq_eq_true b2
        have b3 := Nat.eq_of_beq_eq_true b3
        have b5 := Nat.le_of_ble_eq_true b5
        subst b2
        obtain ⟨q1, vs, q2, q3, q4⟩ := srcV_sound (P := E.P) h.vis hx hsrc
        simp only [SV.den] at hd
        cases hp : N[r0]? with
        | none => simp [hp] at hd
        | some p =>
          simp only [hp, Option.some.injEq] at hd; subst hd
          have hext := h.ext r0 g p hg hp b1
          have hmm : min m n * te.size ≤ m * te.size := Nat.mul_le_mul_right _ (Nat.min_le_left _ _)
          have htk : (cs.take (min m n * te.size)).all SV.one = true := by
            rw [List.all_eq_true] at b4 ⊢
            exact fun c hc => b4 c (List.mem_of_mem_take hc)
          have hden : SV.denL N (cs.take (min m n * te.size)) = some (vs.take (min m n * te.size)) := by
            have := denL_take_drop q2 0 (min m n * te.size)
            simpa using this
          obtain ⟨w', hst, hsat⟩ := Sat.store hp c (cs.take (min m n * te.size)) (vs.take (min m n * te.size)) 0 h hg b1 (by omega) (by simp; omega) hden (one_cells htk hden)
          refine ⟨_, w', by simp only [SV.den]; rfl, ?_, by simpa using hsat⟩
          have hf := q4 w rfl (min m n) (Nat.min_le_left _ _)
          have hmin : Nat.min m n = min m n := rfl
          simp only [Builtin.copy_, h0, List.getElem?_toArray, List.getElem?_cons_zero, List.getElem?_cons_succ, Sem.run_bind, run_underlying ok', Result.andThen, q1, oke.size, hmin, hf, hst, Sem.run_pure, goInt, SI.den]
    · cases hr
  · cases hr

/-- the region that an operation writes -/
def wrOp (ρ : Operand → Option SV) (op : Op) : Option Nat :=
  match op with
  | .store _ a _ => match ρ a with
    | some (.own r _) => some r
    | _ => none
  | .call c => match c.callee with
    | .builtin .append => match c.args.toList with
      | [s, _] => match ρ s with
        | some (.osl r _ _ _ _) => some r
        | _ => none
      | _ => none
    | .builtin .copy => match c.args.toList with
      | [s, _] => match ρ s with
        | some (.osl r _ _ _ _) => some r
        | _ => none
      | _ => none
    | _ => none
  | _ => none

theorem bif_some {b : Bool} {α : Type} {x : Option α} {y : α} (h : (bif b then x else none) = some y) : x = some y := by
  cases b with
  | true => exact h
  | false => simp at h

theorem appV_keeps {rg rg' : List Rg} {te : TI} {s v : SV} {new : List SV} {m : Nat} (h : appV rg te s new m = some (v, rg')) :
    (∀ (r : Nat) (g : Rg), rg[r]? = some g → (∀ c n z k, s ≠ .osl r c n z k) → rg'[r]? = some g) ∧ rg.length ≤ rg'.length := by
  have app : ∀ g, (∀ (r : Nat) (g0 : Rg), rg[r]? = some g0 → (rg ++ [g])[r]? = some g0) ∧ rg.length ≤ (rg ++ [g]).length := fun g =>
    ⟨fun r g0 h => by rw [List.getElem?_append_left (List.getElem?_eq_some_iff.1 h).1]; exact h, by simp⟩
  unfold appV at h
  split at h
  · have h := bif_some h
    cases hm : Nat.beq m 0 with
    | true => rw [hm] at h; simp only [cond_true, Option.some.injEq, Prod.mk.injEq] at h; obtain ⟨_, rfl⟩ := h; exact ⟨fun r g h _ => h, Nat.le_refl _⟩
    | false => rw [hm] at h; simp only [cond_false, Option.some.injEq, Prod.mk.injEq] at h; obtain ⟨_, rfl⟩ := h; exact ⟨fun r g h _ => (app _).1 r g h, (app _).2⟩
  · rename_i r0 c n z k
    split at h
    · replace h := bif_some h
      cases k with
      | some kk =>
        simp only at h
        cases hf : Nat.ble (n + m) kk with
        | true =>
          rw [hf] at h
          simp only [cond_true] at h
          cases hm : Nat.beq m 0 with
          | true => rw [hm] at h; simp only [cond_true, Option.some.injEq, Prod.mk.injEq] at h; obtain ⟨_, rfl⟩ := h; exact ⟨fun r g h _ => h, Nat.le_refl _⟩
          | false =>
            rw [hm] at h
            simp only [cond_false] at h
            have h := bif_some h
            simp only [Option.some.injEq, Prod.mk.injEq] at h
            obtain ⟨_, rfl⟩ := h
            refine ⟨fun r g h hne => ?_, by simp⟩
            rw [List.getElem?_set_ne (fun e => by subst e; exact hne _ _ _ _ rfl)]; exact h
        | false => rw [hf] at h; simp only [cond_false, Option.some.injEq, Prod.mk.injEq] at h; obtain ⟨_, rfl⟩ := h; exact ⟨fun r g h _ => (app _).1 r g h, (app _).2⟩
      | none =>
        simp only at h
        replace h := bif_some h
        cases hm : Nat.beq m 0 with
        | true => rw [hm] at h; simp only [cond_true, Option.some.injEq, Prod.mk.injEq] at h; obtain ⟨_, rfl⟩ := h; exact ⟨fun r g h _ => h, Nat.le_refl _⟩
        | false =>
          rw [hm] at h
          simp only [cond_false, Option.some.injEq, Prod.mk.injEq] at h
          obtain ⟨_, rfl⟩ := h
          refine ⟨fun r g h hne => ?_, by simp⟩
          have hr := (List.getElem?_eq_some_iff.1 h).1
          rw [List.getElem?_append_left (by simpa using hr), List.getElem?_set_ne (fun e => by subst e; exact hne _ _ _ _ rfl)]; exact h
    · cases h
  · cases h

theorem copyV_keeps {rg rg' : List Rg} {te : TI} {s x v : SV} (h : copyV rg te s x = some (v, rg')) :
    (∀ (r : Nat) (g : Rg), rg[r]? = some g → (∀ c n z k, s ≠ .osl r c n z k) → rg'[r]? = some g) ∧ rg.length ≤ rg'.length := by
  unfold copyV at h
  split at h
  · split at h
    · have h := bif_some h
      simp only [Option.some.injEq, Prod.mk.injEq] at h
      obtain ⟨_, rfl⟩ := h
      refine ⟨fun r g h hne => ?_, by simp⟩
      rw [List.getElem?_set_ne (fun e => by subst e; exact hne _ _ _ _ rfl)]; exact h
    · cases h
  · cases h

theorem stepE_keeps {T : Tab} {rg rg' : List Rg} {ρ : Operand → Option SV} {op : Op} {v : SV} (hv : stepE T rg ρ op = some (v, rg')) :
    (∀ (r : Nat) (g : Rg), rg[r]? = some g → wrOp ρ op ≠ some r → rg'[r]? = some g) ∧ rg.length ≤ rg'.length := by
  have app : ∀ g, (∀ (r : Nat) (g0 : Rg), rg[r]? = some g0 → wrOp ρ op ≠ some r → (rg ++ [g])[r]? = some g0) ∧ rg.length ≤ (rg ++ [g]).length := fun g =>
    ⟨fun r g0 h _ => by rw [List.getElem?_append_left (List.getElem?_eq_some_iff.1 h).1]; exact h, by simp⟩
  cases op <;> simp only [stepE] at hv <;> try (simp at hv; done)
  case alloc t =>
    split at hv
    · simp only [Option.some.injEq, Prod.mk.injEq] at hv
      obtain ⟨_, rfl⟩ := hv
      exact app _
    · cases hv
  case box t x =>
    split at hv <;> try (cases hv; done)
    simp only [Option.some.injEq, Prod.mk.injEq] at hv
    obtain ⟨_, rfl⟩ := hv
    exact app _
  case store t x y =>
    split at hv
    · rename_i q c u ti hx hy ht
      split at hv
      · rename_i g hg
        have hv := bif_some hv
        simp only [Option.some.injEq, Prod.mk.injEq] at hv
        obtain ⟨_, rfl⟩ := hv
        refine ⟨fun r g0 hg0 hm => ?_, by simp⟩
        have hne : q ≠ r := fun e => by subst e; exact hm (by simp only [wrOp, hx])
        rw [List.getElem?_set_ne hne]
        exact hg0
      · cases hv
    · cases hv
  case buildSlice t len ps =>
    split at hv
    · split at hv
      · split at hv
        · have hv := bif_some hv
          split at hv
          · simp only [Option.some.injEq, Prod.mk.injEq] at hv
            obtain ⟨_, rfl⟩ := hv
            exact app _
          · cases hv
        · cases hv
      · cases hv
    · cases hv
  case makeSlice t len cap =>
    split at hv
    · split at hv
      · split at hv
        · have hv := bif_some hv
          simp only [Option.some.injEq, Prod.mk.injEq] at hv
          obtain ⟨_, rfl⟩ := hv
          exact app _
        · cases hv
      · cases hv
    · cases hv
  case call c =>
    split at hv
    · rename_i hcal
      split at hv
      · rename_i s x ts tx hargs hta
        split at hv
        · rename_i ss sx ti hss hsx ht
          split at hv
          · split at hv
            · split at hv
              · obtain ⟨h1, h2⟩ := appV_keeps hv
                refine ⟨fun r g hg hne => h1 r g hg (fun c n z k e => hne ?_), h2⟩
                subst e
                simp only [wrOp, hcal, hargs, hss]
              · cases hv
            · cases hv
          · cases hv
        · cases hv
      · cases hv
    · rename_i hcal
      split at hv
      · rename_i s x ts tx hargs hta
        split at hv
        · rename_i ss sx ti hss hsx ht
          split at hv
          · split at hv
            · obtain ⟨h1, h2⟩ := copyV_keeps hv
              refine ⟨fun r g hg hne => h1 r g hg (fun c n z k e => hne ?_), h2⟩
              subst e
              simp only [wrOp, hcal, hargs, hss]
            · cases hv
          · cases hv
        · cases hv
      · cases hv
    · cases hv

/-- what an operation has yielded -/
def Yields (P : Program) (ρ : Operand → Value) (o : Oper) (w : World) (x : Value) (w' : World) : Prop :=
  (execOp ρ o).run P w = .ok (.value x) w' ∨ ((execOp ρ o).run P w = .ok .skip w' ∧ x = undef)

theorem stepE_sound (hT : TabOk E.P T) (h : Sat E N rg w) {ρ : Operand → Option SV} {ρ' : Operand → Value} (hρ : ∀ x s, ρ x = some s → s.den N = some (ρ' x)) {o : Oper} {r : SV} {rg' : List Rg} (hs : stepE T rg ρ o.op = some (r, rg')) :
    ∃ N' x w', N.le N' ∧ r.den N' = some x ∧ Yields E.P ρ' o w x w' ∧ Sat E N' rg' w' := by
  have new : ∀ (cs : List SV) (l : List Value) (t : TypeId), SV.denL N cs = some l → N.le (N ++ [⟨w.heap.size, 0, l.length⟩]) ∧ (SV.own rg.length 0).den (N ++ [⟨w.heap.size, 0, l.length⟩]) = some (.pointer (some ⟨w.heap.size, 0, none⟩)) ∧
      Sat E (N ++ [⟨w.heap.size, 0, l.length⟩]) (rg ++ [⟨true, cs, none⟩]) (w.alloc (.cells l.toArray t)) := by
    intro cs l t hl
    refine ⟨Nums.le_append _ _, ?_, h.alloc hl t⟩
    have : (N ++ [(⟨w.heap.size, 0, l.length⟩ : Num)])[rg.length]? = some ⟨w.heap.size, 0, l.length⟩ := by rw [← h.len]; simp
    simp [SV.den, this]
  have fin : ∀ {sm : Sem Value}, (∀ w, (execOp ρ' o).run E.P w = (do pure (.value (← sm)) : Sem Next).run E.P w) → (∃ N' x w', N.le N' ∧ r.den N' = some x ∧ sm.run E.P w = .ok x w' ∧ Sat E N' rg' w') →
      ∃ N' x w', N.le N' ∧ r.den N' = some x ∧ Yields E.P ρ' o w x w' ∧ Sat E N' rg' w' := by
    rintro sm he ⟨N', x, w', h1, h2, h3, h4⟩
    exact ⟨N', x, w', h1, h2, .inl (by rw [he]; simp [h3]), h4⟩
  cases hop : o.op <;> simp only [hop, stepE] at hs <;> try (simp at hs; done)
  case alloc t =>
    split at hs
    · rename_i ti ht
      simp only [Option.some.injEq, Prod.mk.injEq] at hs
      obtain ⟨rfl, rfl⟩ := hs
      obtain ⟨z, hz, hzd⟩ := (hT.ok t ti ht).zero
      have hzd' : SV.denL N ti.zero = some z.cells.toList := SV.denL_mono (N := []) (N' := N) (fun r p h => by simp at h) _ hzd
      obtain ⟨h1, h2, h3⟩ := new _ _ t hzd'
      refine ⟨_, _, _, h1, h2, .inl ?_, h3⟩
      simp [execOp, hop, Instr.alloc, hz, Result.andThen, newVar, newRow]
    · cases hs
  case box t x =>
    have main : ∀ v, ρ x = some v → (∀ l, v ≠ .tup l) → (∀ l, v ≠ .big l) → some (SV.own rg.length 0, rg ++ [⟨true, v.cells, none⟩]) = some (r, rg') →
        ∃ N' x w', N.le N' ∧ r.den N' = some x ∧ Yields E.P ρ' o w x w' ∧ Sat E N' rg' w' := by
      intro v hv hnt hnb hs
      simp only [Option.some.injEq, Prod.mk.injEq] at hs
      obtain ⟨rfl, rfl⟩ := hs
      have hc := cells_den (hρ _ _ hv) hnt hnb
      obtain ⟨h1, h2, h3⟩ := new _ _ t hc
      refine ⟨_, _, _, h1, h2, .inl ?_, h3⟩
      simp [execOp, hop, Instr.box, Result.andThen, newVar, newRow]
    cases hx : ρ x with
    | none => simp [hx] at hs
    | some v =>
      rw [hx] at hs
      cases v <;> first | (simp at hs; done) | exact main _ hx (by simp) (by simp) hs
  case store t a x =>
    split at hs
    · rename_i q c v ti ha hx ht
      split at hs
      · rename_i g hg
        rw [nth_eq] at hg
        cases hb : (g.own && Nat.beq v.cells.length ti.size && Nat.ble (c + ti.size) g.cells.length && v.cells.all SV.one) with
        | false => rw [hb] at hs; simp at hs
        | true =>
          rw [hb] at hs
          simp only [cond_true, Option.some.injEq, Prod.mk.injEq] at hs
          obtain ⟨rfl, rfl⟩ := hs
          simp only [Bool.and_eq_true] at hb
          obtain ⟨⟨⟨b1, b2⟩, b3⟩, b4⟩ := hb
          have b2 := Nat.eq_of_beq_eq_true b2
          have b3 := Nat.le_of_ble_eq_true b3
          have hda := hρ _ _ ha
          simp only [SV.den] at hda
          cases hp : N[q]? with
          | none => simp [hp] at hda
          | some p =>
            simp only [hp, Option.some.injEq] at hda
            have hnt : ∀ l, v ≠ .tup l := fun l e => by subst e; simp [SV.cells, SV.one] at b4
            have hnb : ∀ l, v ≠ .big l := fun l e => by subst e; simp [SV.cells, SV.one] at b4
            have hc := cells_den (hρ _ _ hx) hnt hnb
            have hext := h.ext q g p hg hp b1
            obtain ⟨w', hrun, hsat⟩ := Sat.store hp c v.cells (ρ' x).cells.toList 0 h hg b1 (by omega) (by omega) hc (one_cells b4 hc)
            have hsz : (ρ' x).cells.size = ti.size := by
              have := (SV.denL_get _ hc).1
              rw [← b2, ← this]; simp
            refine ⟨N, undef, w', Nums.le.refl N, rfl, .inr ⟨?_, rfl⟩, by simpa using hsat⟩
            simp only [execOp, hop, Instr.storeAt, ← hda, Instr.sureAddr, storeVar, Sem.run_bind, Sem.run_pure, Result.andThen, (hT.ok t ti ht).size]
            rw [if_neg (by simp [hsz])]
            simp [hrun]
      · cases hs
    · cases hs
  case buildSlice t len ps =>
    split at hs
    · rename_i ti ht
      split at hs
      · rename_i e hk
        split at hs
        · rename_i te l hte hl
          cases hb : (Nat.blt 0 te.size && Nat.beq te.zero.length te.size && Nat.ble (len * te.size) 16777216) with
          | false => rw [hb] at hs; simp at hs
          | true =>
            rw [hb] at hs
            simp only [cond_true] at hs
            split at hs
            · rename_i cs hf
              simp only [Option.some.injEq, Prod.mk.injEq] at hs
              obtain ⟨rfl, rfl⟩ := hs
              obtain ⟨h1, h2⟩ := evs_sound hρ ps.toList hl
              exact fin (fun w => by simp only [execOp, hop]) (buildSlice_sound (vs := ps.map fun (i, x) => (i, ρ' x)) hT.ok h ht hk hte hb (by simpa using h1) (by simp [h2]) hf)
            · cases hs
        · cases hs
      · cases hs
    · cases hs
  case makeSlice t len cap =>
    split at hs
    · rename_i ti k n k' c ht hn hc
      split at hs
      · rename_i e hk
        split at hs
        · rename_i te hte
          cases hb : (Nat.blt 0 te.size && Nat.beq te.zero.length te.size && decide (0 ≤ n) && decide (n ≤ c) && decide (c ≤ 1099511627776) && Nat.ble (te.bytes * c.toNat) 281474976710656) with
          | false => rw [hb] at hs; simp at hs
          | true =>
            rw [hb] at hs
            simp only [cond_true, Option.some.injEq, Prod.mk.injEq] at hs
            obtain ⟨rfl, rfl⟩ := hs
            have e1 := hρ _ _ hn
            have e2 := hρ _ _ hc
            simp only [SV.den, SI.den, Option.some.injEq] at e1 e2
            exact fin (fun w => by simp only [execOp, hop, ← e1, ← e2]) (makeSlice_sound (k := k) (k' := k') hT.ok h ht hk hte hb)
        · cases hs
      · cases hs
    · cases hs
  case call c =>
    split at hs
    · rename_i hcal
      split at hs
      · rename_i s x ts tx hargs hta
        split at hs
        · rename_i ss sx ti hss hsx ht
          split at hs
          · rename_i e hk
            split at hs
            · rename_i te hte
              split at hs
              · rename_i cs m hsrc
                obtain ⟨callee, args, argTypes⟩ := c
                simp only at hcal hargs hta
                subst hcal
                have e1 : args = #[s, x] := by rw [← Array.toArray_toList (xs := args), hargs]
                have e2 : argTypes = #[ts, tx] := by rw [← Array.toArray_toList (xs := argTypes), hta]
                subst e1; subst e2
                exact fin (sm := Builtin.append_ #[ts, tx] o.type #[ρ' s, ρ' x]) (fun w => by simp [execOp, hop, resolve, invoke, builtin, Result.andThen])
                  (appV_sound rfl hT.ok h (by simp) (by simp) ht hk hte (hρ _ _ hss) (hρ _ _ hsx) hsrc hs)
              · cases hs
            · cases hs
          · cases hs
        · cases hs
      · cases hs
    · rename_i hcal
      split at hs
      · rename_i s x ts tx hargs hta
        split at hs
        · rename_i ss sx ti hss hsx ht
          split at hs
          · rename_i e hk
            split at hs
            · rename_i te hte
              obtain ⟨callee, args, argTypes⟩ := c
              simp only at hcal hargs hta
              subst hcal
              have e1 : args = #[s, x] := by rw [← Array.toArray_toList (xs := args), hargs]
              have e2 : argTypes = #[ts, tx] := by rw [← Array.toArray_toList (xs := argTypes), hta]
              subst e1; subst e2
              obtain ⟨v, w', k1, k2, k3⟩ := copyV_sound (ta := #[ts, tx]) (ty := o.type) rfl hT.ok h (by simp) ht hk hte (hρ _ _ hss) (hρ _ _ hsx) hs
              exact fin (sm := Builtin.copy_ #[ts, tx] o.type #[ρ' s, ρ' x]) (fun w => by simp [execOp, hop, resolve, invoke, builtin, Result.andThen]) ⟨N, v, w', Nums.le.refl N, k1, k2, k3⟩
            · cases hs
          · cases hs
        · cases hs
      · cases hs
    · cases hs

end
end Go.Eng
