/- The symbolic executor, part 20: oracles for tests of which it is told how they end, and for parts of slices. -/
import Derived.Test.YtkjhpaeminegoaaEng19

namespace Go.Eng

theorem litF_ok {n : Nat} {N : Nums} {f : Fr} {a : Act} {t : Nat} {b : SB} {c : Bool} (hfr : FrOk n N f a) (hl : look f t = .val (.bool b)) (hc : b.den = c) : FrOk n N (litF t c f) a := by
  have hok := hfr.ok t
  rw [hl] at hok
  obtain ⟨x, h1, h2⟩ := hok
  simp only [SV.den, Option.some.injEq] at h1
  rw [← h1, hc] at h2
  refine ⟨hfr.size, hfr.defers, fun t' => ?_⟩
  obtain ⟨k1, k2⟩ := look_litF t c t' f
  by_cases e : t' = t
  · subst e
    rcases k1 rfl with q | q <;> rw [q]
    · trivial
    · exact ⟨_, rfl, h2⟩
  · rw [k2 e]
    have := hfr.ok t'
    cases hv : look f t' with
    | val v => rw [hv] at this; exact this
    | dead => trivial
    | opt j w v =>
      rw [hv] at this
      simp only [FV.lit]
      cases hj : Nat.beq j t with
      | false => exact this
      | true =>
        have hj := Nat.eq_of_beq_eq_true hj
        subst hj
        obtain ⟨q1, q2⟩ := this
        simp only [cond_true]
        cases hw : (w == c) with
        | true =>
          have hw : w = c := by simpa using hw
          subst hw
          exact q1 h2
        | false =>
          refine ⟨undef, rfl, q2 (fun h => ?_)⟩
          rw [h2] at h
          simp only [Option.some.injEq, Value.bool.injEq] at h
          subst h; simp at hw

/-- how a test ends -/
structure Told (b : SB) (v : Bool) : Prop where
  eq : b.den = v

/-- operation j, that fills slot t, is a test: how it ends -/
def litO (T : Tab) (n : Nat) (all : Array Oper) : List (Nat × Nat × Bool) → Nat → Fr → Option (Fr × Prop)
  | [], _, _ => none
  | (j, t, v) :: l, i, f => bif Nat.beq i j then
      match opQ T n all [] i f with
      | some f' => match look f' t with
        | .val (.bool b) => some (litF t v f', Told b v)
        | _ => none
      | none => none
    else litO T n all l i f

theorem litO_ok {P : Program} {T : Tab} (hT : TabOk P T) {n : Nat} {all : Array Oper} {N0 : Nums} : ∀ (l : List (Nat × Nat × Bool)), OracOk P n all N0 (fun _ => litO T n all l)
  | [] => fun _ _ _ _ _ _ _ _ _ _ h => by cases h
  | (j, t, v) :: l => by
    intro rg i f f' p N a w0 o ho hq hp hN hf hv
    simp only [litO] at hq
    cases hi : Nat.beq i j with
    | false =>
      rw [hi] at hq
      exact litO_ok hT l rg i f f' p N a w0 o ho hq hp hN hf hv
    | true =>
      rw [hi] at hq
      simp only [cond_true] at hq
      split at hq
      · rename_i f1 hf1
        split at hq
        · rename_i b hb
          simp only [Option.some.injEq, Prod.mk.injEq] at hq
          obtain ⟨rfl, rfl⟩ := hq
          have hv0 : Vis N [] w0 := ⟨Nat.zero_le _, fun r g p hg => by simp at hg, fun r g p hg => by simp at hg⟩
          obtain ⟨x, h1, h2⟩ := opQ_sound hT ho hf1 hf hv0
          refine ⟨x, ?_, litF_ok h2 hb hp.eq⟩
          rcases h1 with ⟨h1, h3⟩ | h1
          · exact .inl ⟨h1, fun w _ => h3 w ⟨Nat.zero_le _, fun r g p hg => by simp at hg, fun r g p hg => by simp at hg⟩⟩
          · exact .inr h1
        · cases hq
      · cases hq

/-- one oracle, then another -/
def orO (x y : Nat → Fr → Option (Fr × Prop)) : Nat → Fr → Option (Fr × Prop) := fun i f => match x i f with
  | some r => some r
  | none => y i f

theorem orO_ok {P : Program} {n : Nat} {all : Array Oper} {N0 : Nums} {x y : Nat → Fr → Option (Fr × Prop)} (hx : OracOk P n all N0 (fun _ => x)) (hy : OracOk P n all N0 (fun _ => y)) : OracOk P n all N0 (fun _ => orO x y) := by
  intro rg i f f' p N a w0 o ho hq hp hN hf hv
  simp only [orO] at hq
  split at hq
  · rename_i r hr
    simp only [Option.some.injEq] at hq; subst hq
    exact hx rg i f _ _ N a w0 o ho hr hp hN hf hv
  · exact hy rg i f f' p N a w0 o ho hq hp hN hf hv

/-! ### a part of a slice -/
/-- operation j is a part of a slice: of what, from, to, the slot, the type; the numbers; the slice, what it yields -/
structure SlcS where
  (j x lo hi d t zl zh : Nat) (sx r : SV)

def sliceS (n : Nat) (ops : Array Oper) : List SlcS → Nat → Fr → Option (Fr × Prop)
  | [], _, _ => none
  | q :: l, i, f => bif Nat.beq i q.j then
      match nth ops.toList q.j with
      | some o => bif sure ops f o then
          match putO n f (some q.d) (.val q.r) with
          | some f' => some (f', ev f (.tmp q.x) = some q.sx ∧ (∃ kd e, ev f (.tmp q.lo) = some (.int kd e) ∧ e.den = (q.zl : Int)) ∧ ∃ kd e, ev f (.tmp q.hi) = some (.int kd e) ∧ e.den = (q.zh : Int))
          | none => none
        else none
      | none => none
    else sliceS n ops l i f

def SlcS.ok (ops : Array Oper) (q : SlcS) : Bool := match nth ops.toList q.j with
  | some o => (match o.op with | .slice t' (.tmp x) (some (.tmp lo)) (some (.tmp hi)) none => Nat.beq t' q.t && (Nat.beq x q.x && (Nat.beq lo q.lo && Nat.beq hi q.hi)) | _ => false) && (match o.dst with | some d => Nat.beq d q.d | none => false)
  | none => false

def SlcS.good (P : Program) (N0 : Nums) (q : SlcS) : Prop := ∃ (e sz b y m c : Nat), P.underlying q.t = some (.slice e) ∧ (∀ w, (sizeOf e).run P w = .ok sz w) ∧ q.zl ≤ q.zh ∧ q.zh ≤ c ∧ q.zl < c ∧
  ∀ N, N0.le N → q.sx.den N = some (.slice (some ⟨b, y, none⟩) m c) ∧ q.r.den N = some (.slice (some ⟨b, y + q.zl * sz, none⟩) (q.zh - q.zl) (c - q.zl))

theorem sliceS_ok {P : Program} {n : Nat} {ops : Array Oper} {N0 : Nums} : ∀ (l : List SlcS), l.all (SlcS.ok ops) = true → (∀ q ∈ l, q.good P N0) → OracOk P n ops N0 (fun _ => sliceS n ops l)
  | [], _, _ => fun _ _ _ _ _ _ _ _ _ _ h => by cases h
  | q :: l, hl, hr => by
    intro rg i f f' pr N a w0 o ho hf hpr hN hfr hv
    simp only [List.all_cons, Bool.and_eq_true] at hl
    simp only [sliceS] at hf
    cases hi : Nat.beq i q.j with
    | false =>
      rw [hi] at hf
      exact sliceS_ok l hl.2 (fun q hq => hr q (by simp [hq])) rg i f f' pr N a w0 o ho hf hpr hN hfr hv
    | true =>
      rw [hi] at hf
      have hi := Nat.eq_of_beq_eq_true hi
      subst hi
      simp only [cond_true, nth_eq, Array.getElem?_toList, ho] at hf
      obtain ⟨hsu, hf⟩ := bif_none hf
      split at hf
      · rename_i f1 hput
        simp only [Option.some.injEq, Prod.mk.injEq] at hf
        obtain ⟨rfl, rfl⟩ := hf
        obtain ⟨hx, ⟨kl, el, hil, hel⟩, ⟨kh, eh, hih, heh⟩⟩ := hpr
        have hok := hl.1
        unfold SlcS.ok at hok
        rw [nth_eq, Array.getElem?_toList, ho] at hok
        simp only [Bool.and_eq_true] at hok
        obtain ⟨hop, hd⟩ := hok
        have hd : o.dst = some q.d := by
          split at hd
          · rename_i d h; rw [h, Nat.eq_of_beq_eq_true hd]
          · cases hd
        have ht : o.op = .slice q.t (.tmp q.x) (some (.tmp q.lo)) (some (.tmp q.hi)) none := by
          split at hop
          · rename_i t' x lo hi h
            simp only [Bool.and_eq_true] at hop
            have e0 := Nat.eq_of_beq_eq_true hop.1
            have e1 := Nat.eq_of_beq_eq_true hop.2.1
            have e2 := Nat.eq_of_beq_eq_true hop.2.2.1
            have e3 := Nat.eq_of_beq_eq_true hop.2.2.2
            subst e0; subst e1; subst e2; subst e3
            exact h
          · cases hop
        have h1 := ev_sound hfr hx
        have h2 := ev_sound hfr hil
        have h3 := ev_sound hfr hih
        simp only [SV.den, Option.some.injEq] at h2 h3
        obtain ⟨e, sz, b, y, m, c, hu, hq, hzz, hzh, hzl, hden⟩ := hr q (by simp)
        obtain ⟨d1, d2⟩ := hden N hN
        rw [d1] at h1
        simp only [Option.some.injEq] at h1
        refine ⟨_, .inl ⟨sure_sound hfr hsu, fun w _ => ?_⟩, by rw [hd]; exact putO_sound hfr d2 hput⟩
        have hb := run_sliceBounds (P := P) (w := w) (ρ' := a.eval) (b := true) (len := m) (cap := c) (lo := some (.tmp q.lo)) (hi := some (.tmp q.hi)) (mx := none) (l := some q.zl) (h := some q.zh) (m := none) (.inr ⟨kl, q.zl, by simp [← h2, hel], rfl⟩) (.inr ⟨kh, q.zh, by simp [← h3, heh], rfl⟩) (.inl ⟨rfl, rfl⟩)
          (by simpa using hzz) (by simpa using hzh) (by simp) (by simp)
        simp only [Option.map_none, Option.map_some, Option.getD_none, Option.getD_some] at hb
        have hne : ¬ c - q.zl = 0 := by omega
        simp [execOp, ht, ← h1, Instr.sliceAt, run_underlying hu, Result.andThen, Instr.slice, hb, hq, hne, addr_add]
        exact fun h => absurd h (by omega)
      · cases hf

/-- where several ways come together -/
theorem X.join {E : Ctx} {ι : Type} (En : ι → Ctx) (S : ι → St) {c1 c2 : Code} {k : List It} {s : St} (hEn : ∀ i, (En i).P = E.P ∧ (En i).Q = E.Q ∧ (En i).B = E.B)
    (h1 : ∀ q : Act → World → Prop, (∀ i a w, At (En i) (S i) a w → q a w) → X E (.code c1 :: .lp q :: k) s) (h2 : ∀ i, X (En i) (.code c2 :: k) (S i)) : X E (.code c1 :: .code c2 :: k) s := by
  have := h1 (fun a w => sem E.P E.B (.code c2 :: k) E.Q .normal a w) (fun i a w ⟨N, q1, q2, q3⟩ => by
    have := h2 i N a w q1 q2 q3
    rw [(hEn i).1, (hEn i).2.1, (hEn i).2.2] at this
    exact this)
  exact this

end Go.Eng
