/- The symbolic executor, part 5: arithmetic, tests, aggregates; all pure operations. -/
import Derived.Test.YtkjhpaeminegoaaEng4

namespace Go.Eng

section
variable {E : Env} {N : Nums} {rg : List Rg} {w : World} {T : Tab}

theorem eqGuard_none {P : Program} (op : BinOp) (t : Nat) (x y : Operand) {a b : Value} (h : ∀ p q, a = .agg p → b = .agg q → False) (h' : a = .nilIface → b = .nilIface → False) :
    (eqGuard op t x y a b).run P w = .ok () w := by
  cases a <;> cases b <;> first | exact (h _ _ rfl rfl).elim | exact (h' rfl rfl).elim | (unfold eqGuard; split <;> rfl)

theorem intOp_sound {P : Program} {op : BinOp} {k : IntKind} {a b : SI} {r : SV} (h : intOp op k a b = some r) (t : Nat) :
    ∃ v, r.den N = some v ∧ (binOp op t (.int k a.den) (.int k b.den)).run P w = .ok v w := by
  cases op <;> simp only [intOp] at h <;> try (simp at h; done)
  case quo =>
    split at h
    · rename_i z
      by_cases hz : z = 0
      · simp [hz] at h
      · simp only [hz, decide_false, cond_false, Option.some.injEq] at h; subst h
        exact ⟨_, by simp only [SV.den]; rfl, by simp [binOp, Op.intDiv, SI.den, hz, quoI_den]⟩
    · cases h
  case rem =>
    split at h
    · rename_i z
      by_cases hz : z = 0
      · simp [hz] at h
      · simp only [hz, decide_false, cond_false, Option.some.injEq] at h; subst h
        exact ⟨_, by simp only [SV.den]; rfl, by simp [binOp, Op.intDiv, SI.den, hz, remI_den]⟩
    · cases h
  all_goals
    simp only [Option.some.injEq] at h; subst h
    refine ⟨_, by simp only [SV.den]; rfl, ?_⟩
    simp [binOp, Op.intArith, Op.intCmp, Op.intBits, addI_den, subI_den, mulI_den, eqI_den, neI_den, ltI_den, leI_den, gtI_den, geI_den, bitsI, bitsS_den]

theorem ptr_spec {x : SV} {a : Value} {b : Bool} (hx : x.den N = some a) (h : ptr? x = some b) : ∃ p : Option Addr, a = .pointer p ∧ p.isSome = b := by
  unfold ptr? at h
  split at h <;> simp only [Option.some.injEq, reduceCtorEq] at h <;> subst h
  · rename_i r c
    simp only [SV.den] at hx
    cases hp : N[r]? with
    | none => simp [hp] at hx
    | some p => simp only [hp, Option.some.injEq] at hx; exact ⟨_, hx.symm, rfl⟩
  · simp only [SV.den, Option.some.injEq] at hx; exact ⟨_, hx.symm, rfl⟩
  · simp only [SV.den, one?, if_true, Option.some.injEq] at hx; exact ⟨_, hx.symm, rfl⟩
  · simp only [SV.den, one?, if_true, Option.some.injEq] at hx; exact ⟨_, hx.symm, rfl⟩

theorem run_equalIn_ptr {P : Program} {t e : Nat} (d : Nat) (h : P.underlying t = some (.pointer e)) (p q : Option Addr) (hpq : (p.isSome && q.isSome) = false) :
    (Op.equalIn (d + 1) t (.pointer p) (.pointer q)).run P w = .ok (!p.isSome && !q.isSome) w := by
  simp only [Op.equalIn, Sem.run_bind, run_underlying h, Result.andThen]
  cases p <;> cases q <;> simp at hpq ⊢

theorem run_equal_ptr {P : Program} {t e : Nat} (h : P.underlying t = some (.pointer e)) (p q : Option Addr) (hpq : (p.isSome && q.isSome) = false) :
    (Op.equal t (.pointer p) (.pointer q)).run P w = .ok (!p.isSome && !q.isSome) w := run_equalIn_ptr 9999 h p q hpq

theorem binV_sound {P : Program} (hT : Tab.ok P T) {op : BinOp} {t : Nat} {x y r : SV} {a b : Value} (hx : x.den N = some a) (hy : y.den N = some b) (h : binV T op t x y = some r) (ox oy : Operand) :
    ∃ v, r.den N = some v ∧ (do eqGuard op t ox oy a b; binOp op t a b : Sem Value).run P w = .ok v w := by
  unfold binV at h
  split at h
  · rename_i k a' k' b'
    simp only [SV.den, Option.some.injEq] at hx hy; subst hx; subst hy
    simp only [Sem.run_bind]
    rw [eqGuard_none _ _ _ _ (by simp) (by simp)]
    simp only [Result.andThen]
    split at h
    · split at h
      · rename_i z
        by_cases hz : z < 0
        · simp [hz] at h
        · simp only [hz, decide_false, cond_false, Option.some.injEq] at h; subst h
          exact ⟨_, by simp only [SV.den]; rfl, by simp [binOp, Op.shift, SI.den, hz, shlI_den]⟩
      · cases h
    · split at h
      · rename_i z
        by_cases hz : z < 0
        · simp [hz] at h
        · simp only [hz, decide_false, cond_false, Option.some.injEq] at h; subst h
          exact ⟨_, by simp only [SV.den]; rfl, by simp [binOp, Op.shift, SI.den, hz, shrI_den]⟩
      · cases h
    · cases hk : kq k k' with
      | false => rw [hk] at h; simp at h
      | true =>
        rw [hk] at h
        simp only [cond_true] at h
        have := kq_eq hk; subst this
        exact intOp_sound h t
  · rename_i a' b'
    simp only [SV.den, Option.some.injEq] at hx hy; subst hx; subst hy
    simp only [Sem.run_bind]
    rw [eqGuard_none _ _ _ _ (by simp) (by simp)]
    simp only [Result.andThen]
    split at h
    · rename_i ti ht
      have ok := (hT t ti ht).kind
      split at h
      · rename_i hk
        rw [hk] at ok
        split at h
        · simp only [Option.some.injEq] at h; subst h
          exact ⟨_, by simp only [SV.den]; rfl, by rw [run_eql_bool w t _ _ ok, beqB_den]⟩
        · simp only [Option.some.injEq] at h; subst h
          exact ⟨_, by simp only [SV.den]; rfl, by rw [run_neq_bool w t _ _ ok, notB_den, beqB_den]⟩
        · cases h
      · cases h
    · cases h
  · rename_i xs ys
    split at h
    · rename_i ti ht
      split at h
      · rename_i sh hsh
        obtain ⟨hg, heq⟩ := (hT t ti ht).eqs sh hsh
        split at h
        · rename_i c hc
          simp only [SV.den] at hx hy
          cases hus : SV.denL N xs with
          | none => simp [hus] at hx
          | some us =>
            cases hvs : SV.denL N ys with
            | none => simp [hvs] at hy
            | some vs =>
              simp only [hus, hvs, Option.some.injEq] at hx hy
              subst hx; subst hy
              obtain ⟨q1, q2⟩ := eqCells_sound hc hus hvs
              have hrun := heq us vs w q1
              simp only [Sem.run_bind]
              rw [run_eqGuard_agg w op t ox oy _ _ hg]
              simp only [Result.andThen]
              split at h
              · simp only [Option.some.injEq] at h; subst h
                exact ⟨_, by simp only [SV.den]; rfl, by rw [run_eql_struct, hrun, q2]; rfl⟩
              · simp only [Option.some.injEq] at h; subst h
                exact ⟨_, by simp only [SV.den]; rfl, by rw [run_neq_struct, hrun, q2, notB_den]; rfl⟩
              · cases h
        · cases h
      · cases h
    · cases h
  · split at h
    · rename_i ti ht
      have ok := (hT t ti ht).kind
      split at h
      · rename_i hk
        rw [hk] at ok
        obtain ⟨e, hu⟩ := ok
        split at h
        · rename_i ba bb hpa hpb
          obtain ⟨p, rfl, hp⟩ := ptr_spec hx hpa
          obtain ⟨q, rfl, hq⟩ := ptr_spec hy hpb
          simp only [Sem.run_bind]
          rw [eqGuard_none _ _ _ _ (by simp) (by simp)]
          simp only [Result.andThen]
          cases hab : (ba && bb) with
          | true => rw [hab] at h; simp at h
          | false =>
            rw [hab] at h
            simp only [cond_false] at h
            have he := run_equal_ptr (w := w) hu p q (by rw [hp, hq]; exact hab)
            rw [hp, hq] at he
            split at h
            · simp only [Option.some.injEq] at h; subst h
              refine ⟨_, by simp only [SV.den]; rfl, ?_⟩
              simp [binOp, he, Result.andThen, SB.den]
            · simp only [Option.some.injEq] at h; subst h
              refine ⟨_, by simp only [SV.den]; rfl, ?_⟩
              simp [binOp, he, Result.andThen, SB.den]
            · cases h
        · cases h
      · cases h
    · cases h

theorem convV_sound {P : Program} (hT : Tab.ok P T) (hS : ∀ t ti, lookT T t = some ti → (P.underlying t).isSome = true) {s d : Nat} {x r : SV} {a : Value} (hx : x.den N = some a) (h : convV T s d x = some r) :
    ∃ v, r.den N = some v ∧ (convert s d a).run P w = .ok v w := by
  unfold convV at h
  split at h
  · rename_i ti0 ti k0 a' ht0 ht
    have ok := (hT d ti ht).kind
    split at h
    · rename_i k hk
      rw [hk] at ok
      have ok' : P.underlying d = some (.int k) := ok
      simp only [SV.den, Option.some.injEq] at hx; subst hx
      obtain ⟨sd, hsd⟩ := Option.isSome_iff_exists.1 (hS s ti0 ht0)
      have main : ∀ z, (convert s d (.int k0 z)).run P w = .ok (.int k (k.wrap z)) w := by
        intro z
        simp only [convert, Sem.run_bind, run_underlying hsd, run_underlying ok', Result.andThen]
        cases sd <;> rfl
      split at h
      · simp only [Option.some.injEq] at h; subst h
        exact ⟨_, by simp only [SV.den]; rfl, by rw [main]; rfl⟩
      · simp only [Option.some.injEq] at h; subst h
        exact ⟨_, by simp only [SV.den]; rfl, by rw [main]; rfl⟩
    · cases h
  · cases h

theorem unV_sound {P : Program} {op : UnOp} {x r : SV} {a : Value} (hx : x.den N = some a) (h : unV op x = some r) :
    ∃ v, r.den N = some v ∧ (Op.unary op a).run P w = .ok v w := by
  unfold unV at h
  split at h
  · simp only [Option.some.injEq] at h; subst h
    simp only [SV.den, Option.some.injEq] at hx; subst hx
    exact ⟨_, by simp only [SV.den]; rfl, by simp [Op.unary, notB_den]⟩
  · simp only [Option.some.injEq] at h; subst h
    simp only [SV.den, Option.some.injEq] at hx; subst hx
    exact ⟨_, by simp only [SV.den]; rfl, by simp [Op.unary, Op.intArith, subI_den, SI.den]⟩
  · simp only [Option.some.injEq] at h; subst h
    simp only [SV.den, Option.some.injEq] at hx; subst hx
    exact ⟨_, by simp only [SV.den]; rfl, by simp [Op.unary, Op.intBits, bitsS_den, SI.den, bitsI]⟩
  · cases h

theorem lenV_sound {P : Program} (hT : Tab.ok P T) {t ty : Nat} {x r : SV} {a : Value} (hx : x.den N = some a) (h : lenV T t x = some r) :
    ∃ v, r.den N = some v ∧ (Builtin.len_ #[t] ty #[a]).run P w = .ok v w := by
  unfold lenV at h
  split at h
  · rename_i ti ht
    have ok := (hT t ti ht).kind
    split at h
    · rename_i e hk
      rw [hk] at ok
      have ok' : P.underlying t = some (.slice e) := ok
      split at h
      · simp only [Option.some.injEq] at h; subst h
        rename_i r c n z k
        simp only [SV.den] at hx
        cases hp : N[r]? with
        | none => simp [hp] at hx
        | some p =>
          simp only [hp, Option.some.injEq] at hx; subst hx
          exact ⟨_, by simp only [SV.den]; rfl, by simp [Builtin.len_, run_underlying ok', Result.andThen, goInt, SI.den]⟩
      · simp only [Option.some.injEq] at h; subst h
        simp only [SV.den, Option.some.injEq] at hx; subst hx
        exact ⟨_, by simp only [SV.den]; rfl, by simp [Builtin.len_, run_underlying ok', Result.andThen, goInt, SI.den]⟩
      · simp only [Option.some.injEq] at h; subst h
        simp only [SV.den, Option.some.injEq] at hx; subst hx
        exact ⟨_, by simp only [SV.den]; rfl, by simp [Builtin.len_, run_underlying ok', Result.andThen, goInt, SI.den]⟩
      · simp only [Option.some.injEq] at h; subst h
        simp only [SV.den, one?, if_true, Option.some.injEq] at hx; subst hx
        exact ⟨_, by simp only [SV.den]; rfl, by simp [Builtin.len_, run_underlying ok', Result.andThen, goInt, SI.den]⟩
      · simp only [Option.some.injEq] at h; subst h
        simp only [SV.den, one?, if_true, Option.some.injEq] at hx; subst hx
        exact ⟨_, by simp only [SV.den]; rfl, by simp [Builtin.len_, run_underlying ok', Result.andThen, goInt, SI.den]⟩
      · cases h
    · rename_i hk
      rw [hk] at ok
      have ok' : P.underlying t = some .string := ok
      split at h
      · simp only [Option.some.injEq] at h; subst h
        simp only [SV.den, one?, if_true, Option.some.injEq] at hx; subst hx
        exact ⟨_, by simp only [SV.den]; rfl, by simp [Builtin.len_, run_underlying ok', Result.andThen, goInt, SI.den]⟩
      · cases h
    · rename_i n e hk
      rw [hk] at ok
      have ok' : P.underlying t = some (.array n e) := ok
      simp only [Option.some.injEq] at h; subst h
      refine ⟨_, by simp only [SV.den]; rfl, ?_⟩
      simp only [Builtin.len_]
      simp [run_underlying ok', Result.andThen, goInt, SI.den]
    · cases h
  · cases h

theorem foldl_setRow (off : Nat) : ∀ (cs : List Value) (k : Nat) (acc : Array Value),
    ((cs.zipIdx k).foldl (fun a (p : Value × Nat) => a.setIfInBounds (off + p.2) p.1) acc).toList = ((List.range cs.length).foldl (fun l j => l.set (off + k + j) (cs.getD j undef)) acc.toList)
  | [], k, acc => rfl
  | c :: cs, k, acc => by
    simp only [List.zipIdx_cons, List.foldl_cons, List.length_cons, List.range_succ_eq_map, List.foldl_map]
    rw [foldl_setRow off cs (k + 1)]
    simp only [Array.toList_setIfInBounds, Nat.add_zero, List.getD_cons_zero, List.getD_cons_succ, Nat.add_succ]
    congr 1
    funext l j
    congr 1
    omega

/-- values laid into a row of values -/
def setRowV (l : List Value) (c : Nat) : List Value → List Value
  | [] => l
  | s :: r => setRowV (l.set c s) (c + 1) r

theorem zip_setRow (off : Nat) : ∀ (cs : List Value) (k : Nat) (acc : Array Value),
    ((cs.zipIdx k).foldl (fun a (p : Value × Nat) => a.setIfInBounds (off + p.2) p.1) acc).toList = setRowV acc.toList (off + k) cs
  | [], k, acc => rfl
  | c :: cs, k, acc => by
    simp only [List.zipIdx_cons, List.foldl_cons, setRowV]
    rw [zip_setRow off cs (k + 1)]
    simp [Nat.add_assoc]

theorem denL_set {l : List SV} {m : List Value} (h : SV.denL N l = some m) (c : Nat) {s : SV} {v : Value} (hs : s.den N = some v) : SV.denL N (l.set c s) = some (m.set c v) := by
  induction l generalizing m c with
  | nil => simp only [SV.denL, Option.some.injEq] at h; subst h; rfl
  | cons x l ih =>
    simp only [SV.denL] at h
    cases hx : x.den N with
    | none => simp [hx] at h
    | some y =>
      cases hl : SV.denL N l with
      | none => simp [hx, hl] at h
      | some q =>
        simp only [hx, hl, Option.some.injEq] at h; subst h
        cases c with
        | zero => simp [SV.denL, hs, hl]
        | succ c => simp [SV.denL, hx, ih hl c]

theorem putAt_lt {α : Type} : ∀ (l : List α) (c : Nat) (s : α), c < l.length → putAt l c s = l.set c s
  | [], c, s, h => by simp at h
  | x :: l, 0, s, _ => rfl
  | x :: l, c + 1, s, h => by simp [putAt, putAt_lt l c s (by simpa using h)]

theorem denL_setRow : ∀ (ss : List SV) {l : List SV} {m vs : List Value} (c : Nat), c + ss.length ≤ l.length → SV.denL N l = some m → SV.denL N ss = some vs → SV.denL N (setRow l c ss) = some (setRowV m c vs)
  | [], l, m, vs, c, _, h, k => by simp only [SV.denL, Option.some.injEq] at k; subst k; exact h
  | s :: ss, l, m, vs, c, hc, h, k => by
    simp only [List.length_cons] at hc
    simp only [SV.denL] at k
    cases hs : s.den N with
    | none => simp [hs] at k
    | some v =>
      cases hss : SV.denL N ss with
      | none => simp [hs, hss] at k
      | some vs' =>
        simp only [hs, hss, Option.some.injEq] at k; subst k
        rw [setRow, putAt_lt _ _ _ (by omega)]
        exact denL_setRow ss (c + 1) (by simp; omega) (denL_set h c hs) hss

theorem cells_den {s : SV} {v : Value} (hs : s.den N = some v) (ht : ∀ l, s ≠ .tup l) (hb : ∀ l, s ≠ .big l) : SV.denL N s.cells = some v.cells.toList := by
  cases s <;> simp only [SV.den, SV.cells] at hs ⊢
  case agg cs =>
    cases hl : SV.denL N cs with
    | none => simp [hl] at hs
    | some l => simp only [hl, Option.some.injEq] at hs; subst hs; simp [Value.cells]
  case tup cs => exact absurd rfl (ht cs)
  case big a => exact absurd rfl (hb a)
  case own r c =>
    cases hp : N[r]? with
    | none => simp [hp] at hs
    | some p => simp only [hp, Option.some.injEq] at hs; subst hs; simp [SV.denL, SV.den, hp, Value.cells]
  case osl r c n z k =>
    cases hp : N[r]? with
    | none => simp [hp] at hs
    | some p => simp only [hp, Option.some.injEq] at hs; subst hs; simp [SV.denL, SV.den, hp, Value.cells]
  case mp r =>
    cases hp : N[r]? with
    | none => simp [hp] at hs
    | some p => simp only [hp, Option.some.injEq] at hs; subst hs; simp [SV.denL, SV.den, hp, Value.cells]
  case ch r =>
    cases hp : N[r]? with
    | none => simp [hp] at hs
    | some p => simp only [hp, Option.some.injEq] at hs; subst hs; simp [SV.denL, SV.den, hp, Value.cells]
  case fn f cs =>
    cases hp : SV.denL N cs with
    | none => simp [hp] at hs
    | some p => simp only [hp, Option.some.injEq] at hs; subst hs; simp [SV.denL, SV.den, hp, Value.cells]
  case raw x =>
    have hx : one? x = true := by
      cases h : one? x with
      | true => rfl
      | false => simp [h] at hs
    simp only [hx, if_true, Option.some.injEq] at hs; subst hs
    cases x <;> first | (simp [one?] at hx; done) | simp [SV.denL, SV.den, one?, Value.cells]
  all_goals
    simp only [Option.some.injEq] at hs; subst hs
    simp [SV.denL, SV.den, Value.cells]

theorem fillV_sound {place : Nat → Option (Nat × Nat)} : ∀ (ps : List (Nat × SV)) (vs : List (Nat × Value)) {cs r : List SV} {m : Array Value}, SV.denL N cs = some m.toList →
    (∀ (j : Nat) (p : Nat × SV), ps[j]? = some p → ∃ v, p.2.den N = some v ∧ vs[j]? = some (p.1, v)) → vs.length = ps.length →
    fillV place cs ps = some r → ∃ q : Array Value, SV.denL N r = some q.toList ∧ Instr.fill place m vs = some q
  | [], vs, cs, r, m, h, hv, hl, hf => by
    simp only [fillV, Option.some.injEq] at hf; subst hf
    have : vs = [] := List.eq_nil_of_length_eq_zero (by simpa using hl)
    subst this
    exact ⟨m, h, rfl⟩
  | (i, s) :: ps, vs, cs, r, m, h, hv, hl, hf => by
    obtain ⟨v, hsv, hv0⟩ := hv 0 (i, s) rfl
    cases vs with
    | nil => simp at hl
    | cons v0 vs =>
      simp at hv0; subst hv0
      simp only [fillV] at hf
      cases hp : place i with
      | none => simp [hp] at hf
      | some os =>
        obtain ⟨off, size⟩ := os
        simp only [hp] at hf
        cases hb : (Nat.beq s.cells.length size && Nat.ble (off + size) cs.length) with
        | false => rw [hb] at hf; simp at hf
        | true =>
          rw [hb] at hf
          simp only [cond_true] at hf
          simp only [Bool.and_eq_true] at hb
          have h1 := Nat.eq_of_beq_eq_true hb.1
          have h2 := Nat.le_of_ble_eq_true hb.2
          have hnt : ∀ l, s ≠ .tup l := fun l e => by subst e; simp at hf
          have hnb : ∀ l, s ≠ .big l := fun l e => by subst e; simp at hf
          have hc := cells_den hsv hnt hnb
          have hlen := (SV.denL_get _ hc).1
          have hlm := (SV.denL_get _ h).1
          have hf' : fillV place (setRow cs off s.cells) ps = some r := by
            cases s <;> first | exact hf | exact absurd rfl (hnt _) | exact absurd rfl (hnb _)
          have hset := denL_setRow s.cells off (by omega) h hc
          obtain ⟨q, hq1, hq2⟩ := fillV_sound ps vs (m := (setRowV m.toList off v.cells.toList).toArray) (by simpa using hset)
            (fun j p hj => by obtain ⟨u, k1, k2⟩ := hv (j + 1) p (by simpa using hj); exact ⟨u, k1, by simpa using k2⟩) (by simpa using hl) hf'
          refine ⟨q, hq1, ?_⟩
          simp only [Instr.fill, hp]
          have hsz : v.cells.size = size := by rw [← h1, ← hlen]; simp
          have hm : m.size = cs.length := by rw [← hlm]; simp
          rw [if_neg (by rw [hsz]; simp; omega)]
          rw [← hq2]
          congr 1
          apply Array.ext'
          have := zip_setRow off v.cells.toList 0 m
          simp only [Nat.add_zero] at this
          rw [← Array.foldl_toList, Array.toList_zipIdx, this]

end
end Go.Eng
