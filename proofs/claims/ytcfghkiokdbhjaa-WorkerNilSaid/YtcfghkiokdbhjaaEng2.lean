/- The symbolic executor, part 2: regions of memory in a world; load, store, a new block. -/
import Derived.Test.YtcfghkiokdbhjaaEng1

namespace Go.Eng

structure Env where
  P : Program
  n : Nat
  Q : Exit → Act → World → Prop
  W : World
  O : Nat → Nat → Prop
  im : Nat → Nat → Option Value
  D : Nat → Prop
  R : World → Prop

/-- what an assertion on the blocks of D does not look beyond -/
def Loc (D : Nat → Prop) (R : World → Prop) : Prop :=
  ∀ w w' : World, (∀ k, D k → w'.heap[k]? = w.heap[k]?) → w.heap.size ≤ w'.heap.size → R w → R w'

structure Sat (E : Env) (N : Nums) (rg : List Rg) (w : World) : Prop where
  len : N.length = rg.length
  lt : ∀ (r : Nat) (p : Nat × Nat), N[r]? = some p → p.1 < w.heap.size
  cell : ∀ (r : Nat) (g : Rg) (p : Nat × Nat), rg[r]? = some g → N[r]? = some p → ∀ (j : Nat) (c : SV), g.cells[j]? = some c →
    ∃ v, c.den N = some v ∧ w.cell? ⟨p.1, p.2 + j, none⟩ = some v
  free : ∀ (r : Nat) (g : Rg) (p : Nat × Nat), rg[r]? = some g → N[r]? = some p → g.own = true → ∀ j, j < g.cells.length → w.frozen? ⟨p.1, p.2 + j, none⟩ = false
  disj : ∀ (r r' : Nat) (g g' : Rg) (p p' : Nat × Nat), rg[r]? = some g → N[r]? = some p → rg[r']? = some g' → N[r']? = some p' → g.own = true → r ≠ r' →
    p.1 ≠ p'.1 ∨ p.2 + g.cells.length ≤ p'.2 ∨ p'.2 + g'.cells.length ≤ p.2
  imm : ∀ k o v, E.im k o = some v → w.cell? ⟨k, o, none⟩ = some v
  imd : ∀ (r : Nat) (g : Rg) (p : Nat × Nat), rg[r]? = some g → N[r]? = some p → g.own = true → ∀ j, j < g.cells.length → E.im p.1 (p.2 + j) = none
  dd : ∀ (r : Nat) (g : Rg) (p : Nat × Nat), rg[r]? = some g → N[r]? = some p → g.own = true → ¬ E.D p.1
  dlt : ∀ k, E.D k → k < w.heap.size
  loc : Loc E.D E.R
  res : E.R w
  chg : Chg E.O E.W w
  foot : ∀ (r : Nat) (g : Rg) (p : Nat × Nat), rg[r]? = some g → N[r]? = some p → g.own = true → E.W.heap.size ≤ p.1 ∨ ∀ j, j < g.cells.length → E.O p.1 (p.2 + j)

theorem Sat.drew {E : Env} {N : Nums} {rg : List Rg} {w : World} (h : Sat E N rg w) : Sat E N rg w.drew :=
  { h with res := h.loc w w.drew (fun _ _ => rfl) (Nat.le_refl _) h.res, chg := h.chg.drew }

/-- what may be read off regions -/
structure Vis (N : Nums) (rg : List Rg) (w : World) : Prop where
  len : rg.length ≤ N.length
  cell : ∀ (r : Nat) (g : Rg) (p : Nat × Nat), rg[r]? = some g → N[r]? = some p → ∀ (j : Nat) (c : SV), g.cells[j]? = some c →
    ∃ v, c.den N = some v ∧ w.cell? ⟨p.1, p.2 + j, none⟩ = some v

theorem Sat.vis {E : Env} {N : Nums} {rg : List Rg} {w : World} (h : Sat E N rg w) : Vis N rg w := ⟨Nat.le_of_eq h.len.symm, h.cell⟩

theorem addr_add (k o j : Nat) : (Addr.mk k o none).add j = ⟨k, o + j, none⟩ := by
  unfold Addr.add
  by_cases h : j = 0
  · subst h; simp
  · simp [h]

/-- a region's cells, in a row, read -/
theorem Vis.load {P : Program} {N : Nums} {rg : List Rg} {w : World} (h : Vis N rg w) {r c n : Nat} {g : Rg} (hg : rg[r]? = some g) (hc : c + n ≤ g.cells.length) :
    ∃ p l, N[r]? = some p ∧ SV.denL N ((g.cells.drop c).take n) = some l ∧ l.length = n ∧ (loadCells ⟨p.1, p.2 + c, none⟩ n).run P w = .ok l.toArray w := by
  have hr : r < N.length := Nat.lt_of_lt_of_le (List.getElem?_eq_some_iff.1 hg).1 h.len
  obtain ⟨p, hp⟩ : ∃ p, N[r]? = some p := ⟨_, List.getElem?_eq_getElem hr⟩
  have hcell := h.cell r g p hg hp
  have hlen : ((g.cells.drop c).take n).length = n := by simp; omega
  obtain ⟨l, hl⟩ := SV.denL_of (N := N) ((g.cells.drop c).take n) (fun j d hj => by
    rw [List.getElem?_take] at hj
    split at hj
    · rw [List.getElem?_drop] at hj
      obtain ⟨v, hv, _⟩ := hcell (c + j) d hj
      exact ⟨v, hv⟩
    · simp at hj)
  obtain ⟨h1, h2⟩ := SV.denL_get _ hl
  have h3 : l.length = n := by rw [h1, hlen]
  refine ⟨p, l, hp, hl, h3, ?_⟩
  have := run_loadCells_list (P := P) w ⟨p.1, p.2 + c, none⟩ l (fun j v hj => by
    have hjn : j < n := by rw [← h3]; exact (List.getElem?_eq_some_iff.1 hj).1
    have hd : ((g.cells.drop c).take n)[j]? = g.cells[c + j]? := by rw [List.getElem?_take, if_pos hjn, List.getElem?_drop]
    have hlt : c + j < g.cells.length := by omega
    obtain ⟨d, hd'⟩ : ∃ d, g.cells[c + j]? = some d := ⟨_, List.getElem?_eq_getElem hlt⟩
    obtain ⟨v', hv', hl'⟩ := h2 j d (by rw [hd, hd'])
    obtain ⟨v'', hv'', hw⟩ := hcell (c + j) d hd'
    rw [hv'] at hv''
    rw [hl'] at hj
    cases hv''; cases hj
    rw [addr_add, Nat.add_assoc]
    exact hw)
  rw [h3] at this
  exact this

theorem Vis.load1 {N : Nums} {rg : List Rg} {w : World} (h : Vis N rg w) {r c : Nat} {g : Rg} {d : SV} (hg : rg[r]? = some g) (hc : g.cells[c]? = some d) :
    ∃ p v, N[r]? = some p ∧ d.den N = some v ∧ w.cell? ⟨p.1, p.2 + c, none⟩ = some v := by
  have hr : r < N.length := Nat.lt_of_lt_of_le (List.getElem?_eq_some_iff.1 hg).1 h.len
  obtain ⟨p, hp⟩ : ∃ p, N[r]? = some p := ⟨_, List.getElem?_eq_getElem hr⟩
  obtain ⟨v, h1, h2⟩ := h.cell r g p hg hp c d hc
  exact ⟨p, v, hp, h1, h2⟩

theorem one_oneCell {v : Value} (h : one? v = true) : v.oneCell' = true := by
  cases v <;> first | rfl | simp [one?] at h

/-- one cell of a region of one's own, written -/
theorem Sat.set1 {E : Env} {N : Nums} {rg : List Rg} {w : World} (h : Sat E N rg w) {r c : Nat} {g : Rg} {p : Nat × Nat} {s : SV} {v : Value} (hg : rg[r]? = some g) (hp : N[r]? = some p)
    (ho : g.own = true) (hc : c < g.cells.length) (hs : s.den N = some v) :
    Sat E N (rg.set r { g with cells := g.cells.set c s }) (w.setCell ⟨p.1, p.2 + c, none⟩ v) := by
  have hrl : r < rg.length := (List.getElem?_eq_some_iff.1 hg).1
  -- a region of the new list, and the one of the old
  have old : ∀ (i : Nat) (x : Rg), (rg.set r { g with cells := g.cells.set c s })[i]? = some x → ∃ y, rg[i]? = some y ∧ x.own = y.own ∧ x.cells.length = y.cells.length ∧ (i ≠ r → x = y) ∧ (i = r → x = { g with cells := g.cells.set c s }) := by
    intro i x hx
    by_cases hi : r = i
    · subst hi
      rw [List.getElem?_set_self hrl] at hx
      cases hx
      exact ⟨g, hg, rfl, by simp, fun h => absurd rfl h, fun _ => rfl⟩
    · rw [List.getElem?_set_ne hi] at hx
      exact ⟨x, hx, rfl, rfl, fun _ => rfl, fun e => absurd e.symm hi⟩
  have hcl : g.cells.length ≠ 0 := by omega
  obtain ⟨d0, hd0⟩ : ∃ d, g.cells[c]? = some d := ⟨_, List.getElem?_eq_getElem hc⟩
  obtain ⟨v0, _, hw0⟩ := h.cell r g p hg hp c d0 hd0
  refine ⟨by simpa using h.len, fun i q hq => by simpa using h.lt i q hq, ?_, ?_, ?_, ?_, ?_, ?_, fun k hk => by simpa using h.dlt k hk, h.loc, ?_, ?_, ?_⟩
  · intro i x q hx hq j d hj
    obtain ⟨y, hy, _, hyl, hne, heq⟩ := old i x hx
    by_cases hi : i = r
    · subst hi
      rw [hp] at hq; cases hq
      rw [heq rfl] at hj
      by_cases hjc : c = j
      · subst hjc
        simp only [List.getElem?_set_self hc, Option.some.injEq] at hj
        subst hj
        exact ⟨v, hs, World.cell?_setCell_same _ _ _ hw0⟩
      · simp only [List.getElem?_set_ne hjc] at hj
        obtain ⟨u, h1, h2⟩ := h.cell i g p hg hp j d hj
        refine ⟨u, h1, ?_⟩
        rw [World.cell?_setCell_other _ _ _ _ (fun e => hjc (by have := congrArg Addr.off e; simp at this; omega))]
        exact h2
    · obtain rfl := hne hi
      obtain ⟨u, h1, h2⟩ := h.cell i x q hy hq j d hj
      refine ⟨u, h1, ?_⟩
      have hjl : j < x.cells.length := (List.getElem?_eq_some_iff.1 hj).1
      rw [World.cell?_setCell_other _ _ _ _ (fun e => by
        have e1 := congrArg Addr.block e
        have e2 := congrArg Addr.off e
        simp at e1 e2
        rcases h.disj r i g x p q hg hp hy hq ho (fun e => hi e.symm) with hd | hd | hd
        · exact hd e1
        · omega
        · omega)]
      exact h2
  · intro i x q hx hq hox j hj
    obtain ⟨y, hy, hyo, hyl, _, _⟩ := old i x hx
    rw [World.frozen?_setCell]
    exact h.free i y q hy hq (by rw [← hyo]; exact hox) j (by rw [← hyl]; exact hj)
  · intro i i' x x' q q' hx hq hx' hq' hox hne
    obtain ⟨y, hy, hyo, hyl, _, _⟩ := old i x hx
    obtain ⟨y', hy', hyo', hyl', _, _⟩ := old i' x' hx'
    rw [hyl, hyl']
    exact h.disj i i' y y' q q' hy hq hy' hq' (by rw [← hyo]; exact hox) hne
  · intro k o u hu
    rw [World.cell?_setCell_other _ _ _ _ (fun e => by
      have e1 := congrArg Addr.block e
      have e2 := congrArg Addr.off e
      simp at e1 e2
      have := h.imd r g p hg hp ho c hc
      rw [e1, e2, hu] at this
      cases this)]
    exact h.imm k o u hu
  · intro i x q hx hq hox j hj
    obtain ⟨y, hy, hyo, hyl, _, _⟩ := old i x hx
    exact h.imd i y q hy hq (by rw [← hyo]; exact hox) j (by rw [← hyl]; exact hj)
  · intro i x q hx hq hox
    obtain ⟨y, hy, hyo, hyl, _, _⟩ := old i x hx
    exact h.dd i y q hy hq (by rw [← hyo]; exact hox)
  · refine h.loc w _ (fun k hk => ?_) (by simp [World.setCell]) h.res
    have hne : p.1 ≠ k := fun e => h.dd r g p hg hp ho (e ▸ hk)
    simp only [World.setCell, Array.getElem?_modify]
    rw [if_neg hne]
  · exact h.chg.setCell ((h.foot r g p hg hp ho).imp id (fun f => f c hc)) v
  · intro i x q hx hq hox
    obtain ⟨y, hy, hyo, hyl, _, _⟩ := old i x hx
    rw [hyl]
    exact h.foot i y q hy hq (by rw [← hyo]; exact hox)

/-- a list, with some of its elements replaced by a row -/
def setRow (l : List SV) (c : Nat) : List SV → List SV
  | [] => l
  | s :: r => setRow (l.set c s) (c + 1) r

theorem setRow_length (l : List SV) (c : Nat) (r : List SV) : (setRow l c r).length = l.length := by
  induction r generalizing l c with
  | nil => rfl
  | cons s r ih => simp [setRow, ih]

theorem list_set_same {α : Type} (l : List α) (r : Nat) (x : α) (h : l[r]? = some x) : l.set r x = l := by
  apply List.ext_getElem?
  intro i
  by_cases e : r = i
  · subst e; rw [List.getElem?_set_self (List.getElem?_eq_some_iff.1 h).1, h]
  · rw [List.getElem?_set_ne e]

/-- a row of cells of a region of one's own, written -/
theorem Sat.store {E : Env} {N : Nums} {r : Nat} {p : Nat × Nat} (hp : N[r]? = some p) (c : Nat) : ∀ (ss : List SV) (vs : List Value) (i : Nat) {rg : List Rg} {w : World} {g : Rg}, Sat E N rg w → rg[r]? = some g →
    g.own = true → c + i + ss.length ≤ g.cells.length → SV.denL N ss = some vs → (∀ v ∈ vs, one? v = true) →
    ∃ w', (storeCells ⟨p.1, p.2 + c, none⟩ vs i).run E.P w = .ok () w' ∧ Sat E N (rg.set r { g with cells := setRow g.cells (c + i) ss }) w'
  | [], vs, i, rg, w, g, h, hg, ho, hl, hd, h1 => by
    simp only [SV.denL, Option.some.injEq] at hd; subst hd
    refine ⟨w, rfl, ?_⟩
    simp only [setRow]
    rw [list_set_same _ _ _ (by rw [hg])]
    exact h
  | s :: ss, vs, i, rg, w, g, h, hg, ho, hl, hd, h1 => by
    simp only [SV.denL] at hd
    cases hs : s.den N with
    | none => simp [hs] at hd
    | some v =>
      cases hss : SV.denL N ss with
      | none => simp [hs, hss] at hd
      | some vs' =>
        simp only [hs, hss, Option.some.injEq] at hd; subst hd
        simp only [List.length_cons] at hl
        have hci : c + i < g.cells.length := by omega
        have hv : one? v = true := h1 v (by simp)
        have hset := h.set1 hg hp ho hci hs
        have hrl : r < rg.length := (List.getElem?_eq_some_iff.1 hg).1
        obtain ⟨w', hrun, hsat⟩ := Sat.store hp c ss vs' (i + 1) (rg := rg.set r { g with cells := g.cells.set (c + i) s }) (w := w.setCell ⟨p.1, p.2 + (c + i), none⟩ v) (g := { g with cells := g.cells.set (c + i) s })
          hset (List.getElem?_set_self hrl) ho (by simp; omega) hss (fun v hv => h1 v (by simp [hv]))
        obtain ⟨d0, hd0⟩ : ∃ d, g.cells[c + i]? = some d := ⟨_, List.getElem?_eq_getElem hci⟩
        obtain ⟨v0, _, hw0⟩ := h.cell r g p hg hp (c + i) d0 hd0
        have hfz := h.free r g p hg hp ho (c + i) hci
        refine ⟨w', ?_, ?_⟩
        · simp only [storeCells, Sem.run_bind]
          rw [run_store E.P w _ v .plain (one_oneCell hv), addr_add, Nat.add_assoc]
          simp only [hw0, hfz]
          simpa [Result.andThen] using hrun
        · rw [List.set_set] at hsat
          simpa [setRow, Nat.add_assoc] using hsat

/-- a new block -/
theorem Sat.alloc {E : Env} {N : Nums} {rg : List Rg} {w : World} (h : Sat E N rg w) {cs : List SV} {l : List Value} (hl : SV.denL N cs = some l) (t : TypeId) :
    Sat E (N ++ [(w.heap.size, 0)]) (rg ++ [⟨true, cs⟩]) (w.alloc (.cells l.toArray t)) := by
  have hle : N.le (N ++ [(w.heap.size, 0)]) := Nums.le_append _ _
  -- a region of the new lists: an old one, or the new
  have part : ∀ (i : Nat) (x : Rg) (q : Nat × Nat), (rg ++ [⟨true, cs⟩])[i]? = some x → (N ++ [(w.heap.size, 0)])[i]? = some q →
      (rg[i]? = some x ∧ N[i]? = some q ∧ q.1 < w.heap.size) ∨ (i = rg.length ∧ x = ⟨true, cs⟩ ∧ q = (w.heap.size, 0)) := by
    intro i x q hx hq
    rcases Nat.lt_or_ge i rg.length with hi | hi
    · rw [List.getElem?_append_left hi] at hx
      rw [List.getElem?_append_left (by rw [h.len]; exact hi)] at hq
      exact .inl ⟨hx, hq, h.lt i q hq⟩
    · rw [List.getElem?_append_right hi] at hx
      rw [List.getElem?_append_right (by rw [h.len]; exact hi)] at hq
      have hz : i - rg.length = 0 := by
        have := (List.getElem?_eq_some_iff.1 hx).1
        simp at this; omega
      rw [h.len, hz] at hq
      rw [hz] at hx
      simp at hx hq
      exact .inr ⟨by omega, hx.symm, hq.symm⟩
  obtain ⟨hlen, hget⟩ := SV.denL_get cs hl
  refine ⟨by simp [h.len], ?_, ?_, ?_, ?_, ?_, ?_, ?_, fun k hk => by have := h.dlt k hk; simp; omega, h.loc, ?_, h.chg.alloc _, ?_⟩
  · intro i q hq
    rcases Nat.lt_or_ge i N.length with hi | hi
    · rw [List.getElem?_append_left hi] at hq
      have := h.lt i q hq; simp; omega
    · rw [List.getElem?_append_right hi] at hq
      have hz : i - N.length = 0 := by
        have := (List.getElem?_eq_some_iff.1 hq).1
        simp at this; omega
      rw [hz] at hq; simp at hq; subst hq; simp
  · intro i x q hx hq j d hj
    rcases part i x q hx hq with ⟨a, b, c⟩ | ⟨a, rfl, rfl⟩
    · obtain ⟨v, h1, h2⟩ := h.cell i x q a b j d hj
      exact ⟨v, SV.den_mono hle d h1, by rw [World.cell?_alloc_lt _ _ _ c]; exact h2⟩
    · obtain ⟨v, h1, h2⟩ := hget j d hj
      refine ⟨v, SV.den_mono hle d h1, ?_⟩
      simp only [Nat.zero_add]
      rw [World.cell?_alloc_new]
      simpa using h2
  · intro i x q hx hq hox j hj
    rcases part i x q hx hq with ⟨a, b, c⟩ | ⟨a, rfl, rfl⟩
    · rw [World.frozen?_alloc_old _ _ _ (Nat.ne_of_lt c)]; exact h.free i x q a b hox j hj
    · simp
  · intro i i' x x' q q' hx hq hx' hq' hox hne
    rcases part i x q hx hq with ⟨a, b, c⟩ | ⟨a, rfl, rfl⟩ <;> rcases part i' x' q' hx' hq' with ⟨a', b', c'⟩ | ⟨a', rfl, rfl⟩
    · exact h.disj i i' x x' q q' a b a' b' hox hne
    · left; simp; omega
    · left; simp; omega
    · omega
  · intro k o v hv
    have := h.imm k o v hv
    rw [World.cell?_alloc_lt _ _ _ (World.block_lt_of_cell? _ _ this)]; exact this
  · intro i x q hx hq hox j hj
    rcases part i x q hx hq with ⟨a, b, c⟩ | ⟨a, rfl, rfl⟩
    · exact h.imd i x q a b hox j hj
    · cases hi : E.im w.heap.size (0 + j) with
      | none => rfl
      | some v => have := World.block_lt_of_cell? _ _ (h.imm _ _ _ hi); simp at this
  · intro i x q hx hq hox
    rcases part i x q hx hq with ⟨a, b, c⟩ | ⟨a, rfl, rfl⟩
    · exact h.dd i x q a b hox
    · intro hd; have := h.dlt _ hd; simp at this
  · refine h.loc w _ (fun k hk => ?_) (by simp) h.res
    have := h.dlt k hk
    show (w.heap.push _)[k]? = _
    rw [Array.getElem?_push, if_neg (by omega)]
  · intro i x q hx hq hox
    rcases part i x q hx hq with ⟨a, b, c⟩ | ⟨a, rfl, rfl⟩
    · exact h.foot i x q a b hox
    · exact .inl h.chg.size

end Go.Eng
