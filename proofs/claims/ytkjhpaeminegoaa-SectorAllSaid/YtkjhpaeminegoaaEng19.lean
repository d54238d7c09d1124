/- The symbolic executor, part 19: a body begun with several regions. -/
import Derived.Test.YtkjhpaeminegoaaEng18

namespace Go.Eng

/-- of each region -/
def AllR (P : Num → Rg → Prop) : Nums → List Rg → Prop
  | [], [] => True
  | p :: N, g :: rg => P p g ∧ AllR P N rg
  | _, _ => False

/-- two regions have no cell in common -/
def SepR (p : Num) (g : Rg) (p' : Num) (g' : Rg) : Prop := g.own = true ∨ g'.own = true → ∀ j j', j < g.wid p → j' < g'.wid p' → ¬ (p.b = p'.b ∧ p.o + j = p'.o + j')

def PairR : Nums → List Rg → Prop
  | [], [] => True
  | p :: N, g :: rg => AllR (fun p' g' => SepR p g p' g') N rg ∧ PairR N rg
  | _, _ => False

/-- what a region says -/
structure RgAt (w : World) (N : Nums) (p : Num) (g : Rg) : Prop where
  lt : p.b < w.heap.size
  ob : g.ob = none
  cell : ∀ (j : Nat) (c : SV), g.cells[j]? = some c → ∃ v, c.den N = some v ∧ w.cell? ⟨p.b, p.o + j, none⟩ = some v
  ext : g.own = true → g.cells.length ≤ p.x
  room : g.own = true → ∀ j, j < p.x → (w.cell? ⟨p.b, p.o + j, none⟩).isSome = true ∧ w.frozen? ⟨p.b, p.o + j, none⟩ = false

theorem AllR.get {P : Num → Rg → Prop} : ∀ {N : Nums} {rg : List Rg}, AllR P N rg → N.length = rg.length ∧ ∀ (r : Nat) (g : Rg) (p : Num), rg[r]? = some g → N[r]? = some p → P p g
  | [], [], _ => ⟨rfl, fun r g p h => by simp at h⟩
  | p :: N, g :: rg, h => by
    obtain ⟨h1, h2⟩ := h
    obtain ⟨k1, k2⟩ := AllR.get h2
    refine ⟨by simp [k1], fun r g' p' hg hp => ?_⟩
    cases r with
    | zero => simp at hg hp; subst hg; subst hp; exact h1
    | succ r => exact k2 r g' p' (by simpa using hg) (by simpa using hp)
  | [], _ :: _, h => h.elim
  | _ :: _, [], h => h.elim

theorem SepR.symm {p p' : Num} {g g' : Rg} (h : SepR p g p' g') : SepR p' g' p g := fun ho j j' hj hj' ⟨e1, e2⟩ => h ho.symm j' j hj' hj ⟨e1.symm, e2.symm⟩

theorem PairR.get : ∀ {N : Nums} {rg : List Rg}, PairR N rg → ∀ (r r' : Nat) (g g' : Rg) (p p' : Num), rg[r]? = some g → N[r]? = some p → rg[r']? = some g' → N[r']? = some p' → r ≠ r' → SepR p g p' g'
  | [], [], _, r, _, _, _, _, _, h, _, _, _, _ => by simp at h
  | p :: N, g :: rg, h, r, r', g1, g2, p1, p2, hg, hp, hg', hp', hne => by
    obtain ⟨h1, h2⟩ := h
    cases r with
    | zero =>
      simp at hg hp; subst hg; subst hp
      cases r' with
      | zero => exact absurd rfl hne
      | succ r' => exact h1.get.2 r' g2 p2 (by simpa using hg') (by simpa using hp')
    | succ r =>
      cases r' with
      | zero =>
        simp at hg' hp'; subst hg'; subst hp'
        exact (h1.get.2 r g1 p1 (by simpa using hg) (by simpa using hp)).symm
      | succ r' => exact PairR.get h2 r r' g1 g2 p1 p2 (by simpa using hg) (by simpa using hp) (by simpa using hg') (by simpa using hp') (by omega)
  | [], _ :: _, h, _, _, _, _, _, _, _, _, _, _, _ => h.elim
  | _ :: _, [], h, _, _, _, _, _, _, _, _, _, _, _ => h.elim

theorem Sat.stdL {P : Program} {fn : Func} {R : Ending → World → Prop} {w : World} {N : Nums} {rg : List Rg} {B : SchT} (h : AllR (RgAt w N) N rg) (hs : PairR N rg) : Sat (Eng.std P fn R w N rg B).toEnv N rg w := by
  obtain ⟨h1, h2⟩ := h.get
  have get : ∀ {r : Nat} {p : Num}, N[r]? = some p → ∃ g, rg[r]? = some g := fun {r p} hp => ⟨_, List.getElem?_eq_getElem (by have := (List.getElem?_eq_some_iff.1 hp).1; omega)⟩
  have getN : ∀ {r : Nat} {g : Rg}, rg[r]? = some g → ∃ p, N[r]? = some p := fun {r p} hp => ⟨_, List.getElem?_eq_getElem (by have := (List.getElem?_eq_some_iff.1 hp).1; omega)⟩
  refine Sat.std h1 (fun r p hp => ?_) (fun r g p hg hp => (h2 r g p hg hp).cell) (fun r g p hg hp => (h2 r g p hg hp).ext) (fun r g p hg hp => (h2 r g p hg hp).room) (fun r r' g g' p p' hg hp hg' hp' ho hne j hj hb => ?_) (fun r g hg => ?_)
  · obtain ⟨g, hg⟩ := get hp
    exact (h2 r g p hg hp).lt
  · have := hs.get r r' g g' p p' hg hp hg' hp' hne (.inl ho) (p'.o + j - p.o) j
    unfold Rg.wid at this
    rw [ho] at this
    simp only [cond_true] at this
    rcases Nat.lt_or_ge (p'.o + j) p.o with h3 | h3
    · exact .inl h3
    · refine .inr ?_
      rcases Nat.lt_or_ge (p'.o + j) (p.o + p.x) with h4 | h4
      · exact absurd ⟨hb.symm, by omega⟩ (this (by omega) hj)
      · exact h4
  · obtain ⟨p, hp⟩ := getN hg
    exact (h2 r g p hg hp).ob

theorem inR_nil {rg : List Rg} {k o : Nat} : ¬ InR [] rg k o := by
  rintro ⟨r, g, p, _, hp, _⟩
  simp at hp

theorem inR_cons {p : Num} {N : Nums} {g : Rg} {rg : List Rg} {k o : Nat} (h : InR (p :: N) (g :: rg) k o) : (g.own = true ∧ k = p.b ∧ p.o ≤ o ∧ o < p.o + p.x) ∨ InR N rg k o := by
  obtain ⟨r, g', p', hg, hp, h1, h2, h3, h4⟩ := h
  cases r with
  | zero => simp at hg hp; subst hg; subst hp; exact .inl ⟨h1, h2, h3, h4⟩
  | succ r => exact .inr ⟨r, g', p', by simpa using hg, by simpa using hp, h1, h2, h3, h4⟩

theorem elsewhere_not {N : Nums} {rg : List Rg} {w : World} {k o : Nat} (h : ¬ InR N rg k o) : elsewhere N rg w k o = w.cell? ⟨k, o, none⟩ := by
  unfold elsewhere
  rw [if_neg h]

theorem sep_ro {p p' : Num} {g g' : Rg} (h : g.own = false) (h' : g'.own = false) : SepR p g p' g' := fun ho => by rw [h, h'] at ho; simp at ho

theorem some_of_chg {O : Nat → Nat → Prop} {w w' : World} (h : Chg O w w') {k : Nat} (o : Nat) (hc : (w.cell? ⟨k, o, none⟩).isSome = true) : (w'.cell? ⟨k, o, none⟩).isSome = true := by
  cases hh : w.heap[k]? with
  | none => simp [World.cell?, hh] at hc
  | some x =>
    cases x with
    | cells c e f =>
      obtain ⟨c', h1, h2, _⟩ := h.cells k c e f hh
      simp only [World.cell?, hh, h1] at hc ⊢
      have : o < c.size := by
        have := Option.isSome_iff_exists.1 hc
        obtain ⟨v, hv⟩ := this
        exact (Array.getElem?_eq_some_iff.1 hv).1
      rw [Array.getElem?_eq_getElem (by omega)]; rfl
    | _ => simp [World.cell?, hh] at hc

/-- a region's cells, as they lie in memory -/
theorem Sat.row {E : Env} {N : Nums} {rg : List Rg} {w : World} (hS : Sat E N rg w) {r : Nat} {g : Rg} {p : Num} {vs : List Value} (hg : rg[r]? = some g) (hp : N[r]? = some p) (hd : SV.denL N g.cells = some vs) (q : Nat) (v : Value) (hq : vs[q]? = some v) : w.cell? ⟨p.b, p.o + q, none⟩ = some v := by
  obtain ⟨h1, h2⟩ := SV.denL_get _ hd
  obtain ⟨c, hc⟩ : ∃ c, g.cells[q]? = some c := ⟨_, List.getElem?_eq_getElem (by rw [← h1]; exact (List.getElem?_eq_some_iff.1 hq).1)⟩
  obtain ⟨u, k1, k2⟩ := h2 q c hc
  obtain ⟨u', k3, k4⟩ := hS.cell r g p hg hp q c hc
  rw [k1] at k3
  rw [hq] at k2
  cases k3; cases k2
  exact k4

section
variable {E : Ctx} {T : Tab} {all : Array Oper} {i : Nat} {rest : List Nat} {k : List It} {s : St} {o : Oper} {f : Fr}

/-- an element's address, as it is told -/
theorem X.idxBy {t : TypeId} {x ix : Operand} {sx : SV} {kd : IntKind} {ex : SI} (z : Nat) (r : SV) (ho : nth all.toList i = some o) (hg : o.guard = none) (hop : o.op = .indexAddr t x ix) (hx : ev s.fr x = some sx) (hi : ev s.fr ix = some (.int kd ex)) (hz : ex.den = (z : Int))
    (hgood : IdxG.good E.P E.N0 ⟨0, 0, 0, 0, t, z, sx, r⟩) (hp : putO E.n s.fr o.dst (.val r) = some f) (hk : X E (.ops all rest :: k) ⟨f, s.rg⟩) : X E (.ops all (i :: rest) :: k) s := by
  refine X.value ho hg _ hp (fun N a w hN hfr hS => ?_) hk
  have h1 := ev_sound hfr hx
  have h2 := ev_sound hfr hi
  simp only [SV.den, Option.some.injEq] at h2
  obtain ⟨va, vr, g1, g2, g3⟩ := hgood N hN
  simp only at g1 g2 g3
  rw [g1] at h1
  simp only [Option.some.injEq] at h1
  refine ⟨vr, g2, ?_⟩
  have := g3 kd w
  simp only [execOp, hop, ← h1, ← h2, hz, Sem.run_bind, this, Result.andThen, Sem.run_pure, Sem.run_map]

/-- the regions' numbers, named -/
theorem X.names (h : ∀ N : Nums, E.N0.le N → N.length = s.rg.length → X { E with N0 := N } k s) : X E k s := by
  refine X.conv fun N a w hN hf hS => ?_
  exact ⟨{ E with N0 := N }, s, rfl, rfl, rfl, rfl, ⟨N, Nums.le.refl _, hf, hS.env rfl rfl rfl rfl rfl⟩, h N hN hS.len⟩

end

theorem Sat.recell {E : Env} {N : Nums} {rg : List Rg} {w : World} (h : Sat E N rg w) {r : Nat} {g : Rg} {cs' : List SV} (hg : rg[r]? = some g) (hl : cs'.length = g.cells.length) (hd : ∀ (j : Nat) (c c' : SV), g.cells[j]? = some c → cs'[j]? = some c' → ∀ v, c.den N = some v → c'.den N = some v) : Sat E N (rg.set r { g with cells := cs' }) w := by
  have hrl : r < rg.length := (List.getElem?_eq_some_iff.1 hg).1
  have old : ∀ {i : Nat} {x : Rg}, (rg.set r { g with cells := cs' })[i]? = some x → ∃ x0, rg[i]? = some x0 ∧ x0.own = x.own ∧ x0.ob = x.ob ∧ x0.cells.length = x.cells.length ∧ ∀ (j : Nat) (c : SV), x.cells[j]? = some c → ∃ c0, x0.cells[j]? = some c0 ∧ ∀ v, c0.den N = some v → c.den N = some v := by
    intro i x hx
    rcases get_set hrl hx with ⟨rfl, rfl⟩ | ⟨hi, hx⟩
    · refine ⟨g, hg, rfl, rfl, hl.symm, fun j c hc => ?_⟩
      have hc : cs'[j]? = some c := hc
      obtain ⟨c0, h0⟩ : ∃ c0, g.cells[j]? = some c0 := ⟨_, List.getElem?_eq_getElem (by rw [← hl]; exact (List.getElem?_eq_some_iff.1 hc).1)⟩
      exact ⟨c0, h0, hd j c0 c h0 hc⟩
    · exact ⟨x, hx, rfl, rfl, rfl, fun j c hc => ⟨c, hc, fun v hv => hv⟩⟩
  refine ⟨by simp [h.len], h.lt, ?_, ?_, ?_, ?_, ?_, ?_, h.imm, ?_, ?_, h.dlt, h.loc, h.res, h.chg, ?_⟩
  · intro i x q hx hq j c hc
    obtain ⟨x0, k1, _, _, _, k5⟩ := old hx
    obtain ⟨c0, k6, k7⟩ := k5 j c hc
    obtain ⟨v, k8, k9⟩ := h.cell i x0 q k1 hq j c0 k6
    exact ⟨v, k7 v k8, k9⟩
  · intro i x q hx hq ho
    obtain ⟨x0, k1, k2, _, k4, _⟩ := old hx
    rw [← k4]; exact h.ext i x0 q k1 hq (k2.trans ho)
  · intro i x q hx hq ho
    obtain ⟨x0, k1, k2, _⟩ := old hx
    exact h.room i x0 q k1 hq (k2.trans ho)
  · intro i i' x x' q q' hx hq hx' hq' ho hne j hj
    obtain ⟨x0, k1, k2, _⟩ := old hx
    obtain ⟨x1, m1, m2, _, m4, _⟩ := old hx'
    refine h.disj i i' x0 x1 q q' k1 hq m1 hq' (k2.trans ho) hne j ?_
    unfold Rg.wid at hj ⊢
    rw [m2, m4]; exact hj
  · intro i x q ob hx hq ho
    obtain ⟨x0, k1, _, k3, _⟩ := old hx
    exact h.obj i x0 q ob k1 hq (k3.trans ho)
  · intro i i' x x' q q' hx hq hx' hq' ho ho' hne
    obtain ⟨x0, k1, _, k3, _⟩ := old hx
    obtain ⟨x1, m1, _, m3, _⟩ := old hx'
    exact h.odisj i i' x0 x1 q q' k1 hq m1 hq' (by rw [k3]; exact ho) (by rw [m3]; exact ho') hne
  · intro i x q hx hq ho
    obtain ⟨x0, k1, k2, _⟩ := old hx
    exact h.imd i x0 q k1 hq (k2.trans ho)
  · intro i x q hx hq ho
    obtain ⟨x0, k1, k2, _⟩ := old hx
    exact h.dd i x0 q k1 hq (k2.trans ho)
  · intro i x q hx hq ho
    obtain ⟨x0, k1, k2, _⟩ := old hx
    exact h.foot i x0 q k1 hq (k2.trans ho)

/-- a region's cells, told in other words -/
theorem X.recell {E : Ctx} {k : List It} {s : St} (r : Nat) (g : Rg) (cs' : List SV) (hg : s.rg[r]? = some g) (hl : cs'.length = g.cells.length) (hd : ∀ N, E.N0.le N → ∀ (j : Nat) (c c' : SV), g.cells[j]? = some c → cs'[j]? = some c' → ∀ v, c.den N = some v → c'.den N = some v) (h : X E k ⟨s.fr, s.rg.set r { g with cells := cs' }⟩) : X E k s := by
  refine X.conv fun N a w hN hf hS => ?_
  exact ⟨E, ⟨s.fr, s.rg.set r { g with cells := cs' }⟩, rfl, rfl, rfl, rfl, ⟨N, hN, hf, hS.recell hg hl (hd N hN)⟩, h⟩

/-- a frame, in which no more is told than needed -/
theorem X.less {E : Ctx} {k : List It} {s : St} (ts : List Nat) (h : X E k ⟨s.fr.filter fun p => ts.elem p.1, s.rg⟩) : X E k s := by
  refine X.conv fun N a w hN hf hS => ?_
  refine ⟨E, ⟨s.fr.filter fun p => ts.elem p.1, s.rg⟩, rfl, rfl, rfl, rfl, ⟨N, hN, ⟨hf.size, hf.defers, fun t => ?_⟩, hS⟩, h⟩
  have := hf.ok t
  have key : ∀ f : Fr, look (f.filter fun p => ts.elem p.1) t = look f t ∨ look (f.filter fun p => ts.elem p.1) t = .dead := fun f => by
    induction f with
    | nil => exact .inl rfl
    | cons p f ih =>
      obtain ⟨k, v⟩ := p
      simp only [List.filter]
      cases he : ts.elem k with
      | true =>
        simp only [look]
        cases Nat.beq k t with
        | true => exact .inl rfl
        | false => exact ih
      | false =>
        simp only [look]
        cases hk : Nat.beq k t with
        | false => exact ih
        | true =>
          have hk := Nat.eq_of_beq_eq_true hk
          subst hk
          refine .inr ?_
          clear ih
          induction f with
          | nil => rfl
          | cons p f ih =>
            obtain ⟨k', v'⟩ := p
            simp only [List.filter]
            cases he' : ts.elem k' with
            | true =>
              simp only [look]
              cases hk' : Nat.beq k' k with
              | false => exact ih
              | true =>
                have hk' := Nat.eq_of_beq_eq_true hk'
                subst hk'
                rw [he] at he'; cases he'
            | false => exact ih
  rcases key s.fr with e | e
  · rw [e]; exact this
  · rw [e]; trivial

/-- a region that is not needed any more -/
theorem X.drop {E : Ctx} {k : List It} {s : St} (r : Nat) (hr : r < s.rg.length) (h : X E k ⟨s.fr, s.rg.set r ⟨false, [], none⟩⟩) : X E k s := by
  refine X.conv fun N a w hN hf hS => ?_
  exact ⟨E, ⟨s.fr, s.rg.set r ⟨false, [], none⟩⟩, rfl, rfl, rfl, rfl, ⟨N, hN, hf, hS.retire hr⟩, h⟩

theorem nil_le (N : Nums) : Nums.le [] N := fun r p h => by simp at h

/-- one cell of a region, told in other words -/
theorem X.recell1 {E : Ctx} {k : List It} {s : St} (r j : Nat) {g : Rg} {c : SV} (c' : SV) (hg : s.rg[r]? = some g) (hj : g.cells[j]? = some c) (hd : ∀ N, E.N0.le N → ∀ v, c.den N = some v → c'.den N = some v) (h : X E k ⟨s.fr, s.rg.set r { g with cells := g.cells.set j c' }⟩) : X E k s := by
  refine X.recell r g (g.cells.set j c') hg (by simp) (fun N hN q d d' h1 h2 v hv => ?_) h
  have hjl : j < g.cells.length := (List.getElem?_eq_some_iff.1 hj).1
  rcases get_set hjl h2 with ⟨rfl, rfl⟩ | ⟨_, h2⟩
  · rw [hj] at h1; cases h1
    exact hd N hN v hv
  · rw [h1] at h2; cases h2
    exact hv

/-! ### an oracle for elements' addresses, where the guard is known to hold -/
def idxS (n : Nat) (ops : Array Oper) : List IdxG → Nat → Fr → Option (Fr × Prop)
  | [], _, _ => none
  | q :: l, i, f => bif Nat.beq i q.j then
      match nth ops.toList q.j with
      | some o => bif sure ops f o then
          match putO n f (some q.d) (.val q.r) with
          | some f' => some (f', ev f (.tmp q.x) = some q.sx ∧ ∃ kd e, ev f (.tmp q.ix) = some (.int kd e) ∧ e.den = (q.z : Int))
          | none => none
        else none
      | none => none
    else idxS n ops l i f

def IdxG.okS (ops : Array Oper) (q : IdxG) : Bool := match nth ops.toList q.j with
  | some o => (match o.op with | .indexAddr t' (.tmp x) (.tmp ix) => Nat.beq t' q.t && (Nat.beq x q.x && Nat.beq ix q.ix) | _ => false) && (match o.dst with | some d => Nat.beq d q.d | none => false)
  | none => false

theorem idxS_ok {P : Program} {n : Nat} {ops : Array Oper} {N0 : Nums} : ∀ (l : List IdxG), l.all (IdxG.okS ops) = true → (∀ q ∈ l, q.good P N0) → OracOk P n ops N0 (fun _ => idxS n ops l)
  | [], _, _ => fun _ _ _ _ _ _ _ _ _ _ h => by cases h
  | q :: l, hl, hr => by
    intro rg i f f' pr N a w0 o ho hf hpr hN hfr hv
    simp only [List.all_cons, Bool.and_eq_true] at hl
    simp only [idxS] at hf
    cases hi : Nat.beq i q.j with
    | false =>
      rw [hi] at hf
      exact idxS_ok l hl.2 (fun q hq => hr q (by simp [hq])) rg i f f' pr N a w0 o ho hf hpr hN hfr hv
    | true =>
      rw [hi] at hf
      have hi := Nat.eq_of_beq_eq_true hi
      subst hi
      simp only [cond_true, nth_eq, Array.getElem?_toList, ho] at hf
      obtain ⟨hsu, hf⟩ := bif_none hf
      split at hf
      · rename_i f1 hput
        simp only [Option.some.injEq, Prod.mk.injEq] at hf
        obtain ⟨rfl, rfl⟩ := hf
        obtain ⟨hx, kd, ee, hix, hez⟩ := hpr
        have hok := hl.1
        unfold IdxG.okS at hok
        rw [nth_eq, Array.getElem?_toList, ho] at hok
        simp only [Bool.and_eq_true] at hok
        obtain ⟨hop, hd⟩ := hok
        have hd : o.dst = some q.d := by
          split at hd
          · rename_i d h; rw [h, Nat.eq_of_beq_eq_true hd]
          · cases hd
        obtain ⟨t', ht⟩ : ∃ t', o.op = .indexAddr t' (.tmp q.x) (.tmp q.ix) ∧ t' = q.t := by
          split at hop
          · rename_i t' x ix h
            simp only [Bool.and_eq_true] at hop
            have e1 := Nat.eq_of_beq_eq_true hop.2.1
            have e2 := Nat.eq_of_beq_eq_true hop.2.2
            subst e1; subst e2
            exact ⟨_, h, Nat.eq_of_beq_eq_true hop.1⟩
          · cases hop
        obtain ⟨hop', rfl⟩ := ht
        have h1 := ev_sound hfr hx
        have h2 := ev_sound hfr hix
        simp only [SV.den, Option.some.injEq] at h2
        obtain ⟨va, vr, g1, g2, g3⟩ := hr q (by simp) N hN
        rw [g1] at h1
        simp only [Option.some.injEq] at h1
        refine ⟨vr, .inl ⟨sure_sound hfr hsu, fun w _ => ?_⟩, by rw [hd]; exact putO_sound hfr g2 hput⟩
        have := g3 kd w
        simp only [execOp, hop', ← h1, ← h2, hez, Sem.run_bind, this, Result.andThen, Sem.run_pure, Sem.run_map]
      · cases hf

end Go.Eng
