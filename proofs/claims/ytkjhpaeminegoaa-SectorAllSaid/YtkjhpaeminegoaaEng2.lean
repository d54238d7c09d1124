/- The symbolic executor, part 2: regions of memory in a world; load, store, a new block. -/
import Derived.Test.YtkjhpaeminegoaaEng1

namespace Go.Eng

structure Env where
  P : Program
  n : Nat
  Q : Exit → Act → World → Prop
  W : World
  O : Nat → Nat → Prop
  im : Nat → Nat → Option Value
  D : Nat → Nat → Prop
  R : World → Prop

/-- what is no row of cells, in that block -/
def objAt (w : World) (k : Nat) : Option Obj :=
  match w.heap[k]? with
  | some (.cells _ _ _) => none
  | x => x

/-- there is a cell, or that block is an object -/
def There (w : World) (k o : Nat) : Prop := (w.cell? ⟨k, o, none⟩).isSome = true ∨ (objAt w k).isSome = true

/-- an assertion looks at no other cells, and objects, than those of D -/
def Loc (D : Nat → Nat → Prop) (R : World → Prop) : Prop :=
  ∀ w w' : World, (∀ k o, D k o → (w'.cell? ⟨k, o, none⟩ = w.cell? ⟨k, o, none⟩ ∧ w'.frozen? ⟨k, o, none⟩ = w.frozen? ⟨k, o, none⟩) ∧ objAt w' k = objAt w k) → w.heap.size ≤ w'.heap.size → R w → R w'

/-- .. at cells alone -/
theorem Loc.cells {D : Nat → Nat → Prop} {R : World → Prop} (h : ∀ w w' : World, (∀ k o, D k o → w'.cell? ⟨k, o, none⟩ = w.cell? ⟨k, o, none⟩ ∧ w'.frozen? ⟨k, o, none⟩ = w.frozen? ⟨k, o, none⟩) → w.heap.size ≤ w'.heap.size → R w → R w') : Loc D R :=
  fun w w' h1 h2 h3 => h w w' (fun k o hd => (h1 k o hd).1) h2 h3

theorem objAt_same {w w' : World} {k : Nat} (h : w'.heap[k]? = w.heap[k]?) : objAt w' k = objAt w k := by
  unfold objAt; rw [h]

theorem objAt_some {w : World} {k : Nat} {x : Obj} (h : w.heap[k]? = some x) (hn : ∀ c e f, x ≠ .cells c e f) : objAt w k = some x := by
  unfold objAt; rw [h]
  cases x with
  | cells c e f => exact absurd rfl (hn c e f)
  | _ => rfl

theorem heap_objAt {w : World} {k : Nat} {x : Obj} (h : objAt w k = some x) : w.heap[k]? = some x := by
  unfold objAt at h
  split at h
  · cases h
  · exact h

theorem There.lt {w : World} {k o : Nat} (h : There w k o) : k < w.heap.size := by
  rcases h with h | h
  · obtain ⟨u, hu⟩ := Option.isSome_iff_exists.1 h
    exact World.block_lt_of_cell? _ _ hu
  · obtain ⟨x, hx⟩ := Option.isSome_iff_exists.1 h
    exact (Array.getElem?_eq_some_iff.1 (heap_objAt hx)).1

theorem There.of {w w' : World} {k o : Nat} (h : There w k o) (hc : (w.cell? ⟨k, o, none⟩).isSome = true → (w'.cell? ⟨k, o, none⟩).isSome = true) (ho : objAt w' k = objAt w k) : There w' k o :=
  h.imp hc (fun h => by rw [ho]; exact h)

theorem objAt_setCell (w : World) (b o : Nat) (v : Value) (k : Nat) : objAt (w.setCell ⟨b, o, none⟩ v) k = objAt w k := by
  unfold objAt
  simp only [World.setCell, Array.getElem?_modify]
  by_cases e : b = k
  · rw [if_pos e]
    cases h : w.heap[k]? with
    | none => rfl
    | some x => cases x <;> rfl
  · rw [if_neg e]

theorem objAt_alloc (w : World) (x : Obj) {k : Nat} (hk : k < w.heap.size) : objAt (w.alloc x) k = objAt w k :=
  objAt_same (by show (w.heap.push x)[k]? = _; rw [Array.getElem?_push, if_neg (by omega)])

/-- how many cells a region takes -/
def Rg.wid (g : Rg) (p : Num) : Nat := bif g.own then p.x else g.cells.length

structure Sat (E : Env) (N : Nums) (rg : List Rg) (w : World) : Prop where
  len : N.length = rg.length
  lt : ∀ (r : Nat) (p : Num), N[r]? = some p → p.b < w.heap.size
  cell : ∀ (r : Nat) (g : Rg) (p : Num), rg[r]? = some g → N[r]? = some p → ∀ (j : Nat) (c : SV), g.cells[j]? = some c →
    ∃ v, c.den N = some v ∧ w.cell? ⟨p.b, p.o + j, none⟩ = some v
  ext : ∀ (r : Nat) (g : Rg) (p : Num), rg[r]? = some g → N[r]? = some p → g.own = true → g.cells.length ≤ p.x
  room : ∀ (r : Nat) (g : Rg) (p : Num), rg[r]? = some g → N[r]? = some p → g.own = true → ∀ j, j < p.x → (w.cell? ⟨p.b, p.o + j, none⟩).isSome = true ∧ w.frozen? ⟨p.b, p.o + j, none⟩ = false
  disj : ∀ (r r' : Nat) (g g' : Rg) (p p' : Num), rg[r]? = some g → N[r]? = some p → rg[r']? = some g' → N[r']? = some p' → g.own = true → r ≠ r' →
    ∀ j, j < g'.wid p' → p'.b = p.b → p'.o + j < p.o ∨ p.o + p.x ≤ p'.o + j
  obj : ∀ (r : Nat) (g : Rg) (p : Num) (ob : Ob), rg[r]? = some g → N[r]? = some p → g.ob = some ob → (∃ o, ob.den N = some o ∧ w.heap[p.b]? = some o) ∧ E.W.heap.size ≤ p.b ∧ ∀ o, ¬ E.D p.b o
  odisj : ∀ (r r' : Nat) (g g' : Rg) (p p' : Num), rg[r]? = some g → N[r]? = some p → rg[r']? = some g' → N[r']? = some p' → g.ob.isSome = true → g'.ob.isSome = true → r ≠ r' → p.b ≠ p'.b
  imm : ∀ k o v, E.im k o = some v → w.cell? ⟨k, o, none⟩ = some v
  imd : ∀ (r : Nat) (g : Rg) (p : Num), rg[r]? = some g → N[r]? = some p → g.own = true → ∀ j, j < p.x → E.im p.b (p.o + j) = none
  dd : ∀ (r : Nat) (g : Rg) (p : Num), rg[r]? = some g → N[r]? = some p → g.own = true → ∀ j, j < p.x → ¬ E.D p.b (p.o + j)
  dlt : ∀ k o, E.D k o → There w k o
  loc : Loc E.D E.R
  res : E.R w
  chg : Chg E.O E.W w
  foot : ∀ (r : Nat) (g : Rg) (p : Num), rg[r]? = some g → N[r]? = some p → g.own = true → E.W.heap.size ≤ p.b ∨ ∀ j, j < p.x → E.O p.b (p.o + j)

theorem Sat.drew {E : Env} {N : Nums} {rg : List Rg} {w : World} (h : Sat E N rg w) : Sat E N rg w.drew :=
  { h with res := h.loc w w.drew (fun _ _ _ => ⟨⟨rfl, rfl⟩, rfl⟩) (Nat.le_refl _) h.res, chg := h.chg.drew }

/-- what may be read off regions -/
structure Vis (N : Nums) (rg : List Rg) (w : World) : Prop where
  len : rg.length ≤ N.length
  cell : ∀ (r : Nat) (g : Rg) (p : Num), rg[r]? = some g → N[r]? = some p → ∀ (j : Nat) (c : SV), g.cells[j]? = some c →
    ∃ v, c.den N = some v ∧ w.cell? ⟨p.b, p.o + j, none⟩ = some v
  ext : ∀ (r : Nat) (g : Rg) (p : Num), rg[r]? = some g → N[r]? = some p → g.own = true → g.cells.length ≤ p.x

theorem Sat.vis {E : Env} {N : Nums} {rg : List Rg} {w : World} (h : Sat E N rg w) : Vis N rg w := ⟨Nat.le_of_eq h.len.symm, h.cell, h.ext⟩

theorem addr_add (k o j : Nat) : (Addr.mk k o none).add j = ⟨k, o + j, none⟩ := by
  unfold Addr.add
  by_cases h : j = 0
  · subst h; simp
  · simp [h]

/-- a region's cells, in a row, read -/
theorem Vis.load {P : Program} {N : Nums} {rg : List Rg} {w : World} (h : Vis N rg w) {r c n : Nat} {g : Rg} (hg : rg[r]? = some g) (hc : c + n ≤ g.cells.length) :
    ∃ p l, N[r]? = some p ∧ SV.denL N ((g.cells.drop c).take n) = some l ∧ l.length = n ∧ (loadCells ⟨p.b, p.o + c, none⟩ n).run P w = .ok l.toArray w := by
  have hr : r < N.length := Nat.lt_of_lt_of_le (List.getElem?_eq_some_iff.1 hg).1 h.len
  obtain ⟨p, hp⟩ : ∃ p, N[r]? = some p := ⟨_, List.getElem?_eq_getElem hr⟩
  have hcell := h.cell r g p hg hp
  have hlen : ((g.cells.drop c).take n).length = n := by simp; omega
  obtain ⟨l, hl⟩ := SV.denL_of (N := N) ((g.cells.drop c).take n) (fun j d hj => by
    rw [List.getElem?_take] at hj
    split at hj
    · rw [List.getElem?_drop] at hj
      obtain ⟨v, hv, _⟩ := hcell (c + j) d hj
      exact ⟨v, hv⟩
    · simp at hj)
  obtain ⟨h1, h2⟩ := SV.denL_get _ hl
  have h3 : l.length = n := by rw [h1, hlen]
  refine ⟨p, l, hp, hl, h3, ?_⟩
  have := run_loadCells_list (P := P) w ⟨p.b, p.o + c, none⟩ l (fun j v hj => by
    have hjn : j < n := by rw [← h3]; exact (List.getElem?_eq_some_iff.1 hj).1
    have hd : ((g.cells.drop c).take n)[j]? = g.cells[c + j]? := by rw [List.getElem?_take, if_pos hjn, List.getElem?_drop]
    have hlt : c + j < g.cells.length := by omega
    obtain ⟨d, hd'⟩ : ∃ d, g.cells[c + j]? = some d := ⟨_, List.getElem?_eq_getElem hlt⟩
    obtain ⟨v', hv', hl'⟩ := h2 j d (by rw [hd, hd'])
    obtain ⟨v'', hv'', hw⟩ := hcell (c + j) d hd'
    rw [hv'] at hv''
    rw [hl'] at hj
    cases hv''; cases hj
    rw [addr_add, Nat.add_assoc]
    exact hw)
  rw [h3] at this
  exact this

theorem Vis.load1 {N : Nums} {rg : List Rg} {w : World} (h : Vis N rg w) {r c : Nat} {g : Rg} {d : SV} (hg : rg[r]? = some g) (hc : g.cells[c]? = some d) :
    ∃ p v, N[r]? = some p ∧ d.den N = some v ∧ w.cell? ⟨p.b, p.o + c, none⟩ = some v := by
  have hr : r < N.length := Nat.lt_of_lt_of_le (List.getElem?_eq_some_iff.1 hg).1 h.len
  obtain ⟨p, hp⟩ : ∃ p, N[r]? = some p := ⟨_, List.getElem?_eq_getElem hr⟩
  obtain ⟨v, h1, h2⟩ := h.cell r g p hg hp c d hc
  exact ⟨p, v, hp, h1, h2⟩

theorem one_oneCell {v : Value} (h : one? v = true) : v.oneCell' = true := by
  cases v <;> first | rfl | simp [one?] at h

theorem list_set_same {α : Type} (l : List α) (r : Nat) (x : α) (h : l[r]? = some x) : l.set r x = l := by
  apply List.ext_getElem?
  intro i
  by_cases e : r = i
  · subst e; rw [List.getElem?_set_self (List.getElem?_eq_some_iff.1 h).1, h]
  · rw [List.getElem?_set_ne e]

/-- a region of a list in which one was replaced -/
theorem get_set {α : Type} {l : List α} {r i : Nat} {g' x : α} (hr : r < l.length) (hx : (l.set r g')[i]? = some x) : (i = r ∧ x = g') ∨ (i ≠ r ∧ l[i]? = some x) := by
  by_cases hi : r = i
  · subst hi
    rw [List.getElem?_set_self hr] at hx
    cases hx
    exact .inl ⟨rfl, rfl⟩
  · rw [List.getElem?_set_ne hi] at hx
    exact .inr ⟨fun e => hi e.symm, hx⟩

/-- one cell of a region of one's own, written: one that was known, or the first behind those -/
theorem Sat.put1 {E : Env} {N : Nums} {rg : List Rg} {w : World} (h : Sat E N rg w) {r c : Nat} {g g' : Rg} {p : Num} {s : SV} {v : Value} (hg : rg[r]? = some g) (hp : N[r]? = some p)
    (ho : g.own = true) (hc : c < p.x) (hs : s.den N = some v) (ho' : g'.own = true) (hob : g'.ob = g.ob) (hl : g'.cells.length ≤ p.x)
    (hcs : ∀ (j : Nat) (d : SV), g'.cells[j]? = some d → (j = c ∧ d = s) ∨ (j ≠ c ∧ g.cells[j]? = some d)) :
    Sat E N (rg.set r g') (w.setCell ⟨p.b, p.o + c, none⟩ v) := by
  have hrl : r < rg.length := (List.getElem?_eq_some_iff.1 hg).1
  obtain ⟨hsome, hfz⟩ := h.room r g p hg hp ho c hc
  obtain ⟨v0, hw0⟩ := Option.isSome_iff_exists.1 hsome
  have keep : ∀ (k o : Nat) (u : Value), (k = p.b → o ≠ p.o + c) → w.cell? ⟨k, o, none⟩ = some u → (w.setCell ⟨p.b, p.o + c, none⟩ v).cell? ⟨k, o, none⟩ = some u := by
    intro k o u hne hu
    rw [World.cell?_setCell_other _ _ _ _ (fun e => by
      have e1 := congrArg Addr.block e
      have e2 := congrArg Addr.off e
      simp at e1 e2
      exact hne e1.symm e2.symm)]
    exact hu
  have width : ∀ q : Num, q = p → g'.wid q = g.wid q := fun q hq => by simp [Rg.wid, ho, ho']
  refine ⟨by simpa using h.len, fun i q hq => by simpa using h.lt i q hq, ?_, ?_, ?_, ?_, ?_, ?_, ?_, ?_, ?_, fun k o hk => (h.dlt k o hk).of (fun hs => by
    obtain ⟨u, hu⟩ := Option.isSome_iff_exists.1 hs
    rw [keep k o u (fun e1 e2 => h.dd r g p hg hp ho c hc (by rw [← e1, ← e2]; exact hk)) hu]; rfl) (objAt_setCell _ _ _ _ _), h.loc, ?_, ?_, ?_⟩
  · intro i x q hx hq j d hj
    rcases get_set hrl hx with ⟨rfl, rfl⟩ | ⟨hi, hx⟩
    · rw [hp] at hq; cases hq
      rcases hcs j d hj with ⟨rfl, rfl⟩ | ⟨hjc, hj⟩
      · exact ⟨v, hs, World.cell?_setCell_same _ _ _ hw0⟩
      · obtain ⟨u, h1, h2⟩ := h.cell i g p hg hp j d hj
        exact ⟨u, h1, keep _ _ _ (fun _ => by omega) h2⟩
    · obtain ⟨u, h1, h2⟩ := h.cell i x q hx hq j d hj
      refine ⟨u, h1, keep _ _ _ (fun e => ?_) h2⟩
      have hjl : j < x.cells.length := (List.getElem?_eq_some_iff.1 hj).1
      have hjw : j < x.wid q := by
        unfold Rg.wid
        cases hxo : x.own with
        | true => have := h.ext i x q hx hq hxo; simp; omega
        | false => simpa using hjl
      rcases h.disj r i g x p q hg hp hx hq ho (fun e => hi e.symm) j hjw e with hd | hd <;> omega
  · intro i x q hx hq hox
    rcases get_set hrl hx with ⟨rfl, rfl⟩ | ⟨hi, hx⟩
    · rw [hp] at hq; cases hq; exact hl
    · exact h.ext i x q hx hq hox
  · intro i x q hx hq hox j hj
    rw [World.frozen?_setCell]
    have main : ∀ y, rg[i]? = some y → y.own = true → ((w.setCell ⟨p.b, p.o + c, none⟩ v).cell? ⟨q.b, q.o + j, none⟩).isSome = true ∧ w.frozen? ⟨q.b, q.o + j, none⟩ = false := by
      intro y hy hyo
      obtain ⟨k1, k2⟩ := h.room i y q hy hq hyo j hj
      refine ⟨?_, k2⟩
      obtain ⟨u, hu⟩ := Option.isSome_iff_exists.1 k1
      by_cases e : q.b = p.b ∧ q.o + j = p.o + c
      · rw [e.1, e.2, World.cell?_setCell_same _ _ _ hw0]; rfl
      · rw [keep _ _ _ (fun e1 e2 => e ⟨e1, e2⟩) hu]; rfl
    rcases get_set hrl hx with ⟨rfl, rfl⟩ | ⟨hi, hx⟩
    · exact main g hg ho
    · exact main x hx hox
  · intro i i' x x' q q' hx hq hx' hq' hox hne j hj hb
    rcases get_set hrl hx with ⟨rfl, rfl⟩ | ⟨hi, hy⟩ <;> rcases get_set hrl hx' with ⟨rfl, rfl⟩ | ⟨hi', hy'⟩
    · exact absurd rfl hne
    · rw [hp] at hq; cases hq
      exact h.disj i i' g x' p q' hg hp hy' hq' ho hne j hj hb
    · rw [hp] at hq'; cases hq'
      rw [width p rfl] at hj
      exact h.disj i i' x g q p hy hq hg hp hox hne j hj hb
    · exact h.disj i i' x x' q q' hy hq hy' hq' hox hne j hj hb
  · have main : ∀ (i : Nat) (q : Num) (y : Rg) (ob : Ob), N[i]? = some q → rg[i]? = some y → y.ob = some ob → (∃ o, ob.den N = some o ∧ (w.setCell ⟨p.b, p.o + c, none⟩ v).heap[q.b]? = some o) ∧ E.W.heap.size ≤ q.b ∧ ∀ o, ¬ E.D q.b o := by
      intro i q y ob hq hy hyo
      obtain ⟨⟨o, k1, k2⟩, k3⟩ := h.obj i y q ob hy hq hyo
      refine ⟨⟨o, k1, ?_⟩, k3⟩
      simp only [World.setCell, Array.getElem?_modify]
      by_cases e : p.b = q.b
      · rw [if_pos e, k2]
        cases ob <;> simp only [Ob.den] at k1 <;> split at k1 <;> first | (cases k1; done) | (cases k1; rfl)
      · rw [if_neg e]; exact k2
    intro i x q ob hx hq hob'
    rcases get_set hrl hx with ⟨rfl, rfl⟩ | ⟨hi, hx⟩
    · exact main i q g ob hq hg (by rw [← hob]; exact hob')
    · exact main i q x ob hq hx hob'
  · intro i i' x x' q q' hx hq hx' hq' hox hox' hne
    rcases get_set hrl hx with ⟨rfl, rfl⟩ | ⟨hi, hy⟩ <;> rcases get_set hrl hx' with ⟨rfl, rfl⟩ | ⟨hi', hy'⟩
    · exact absurd rfl hne
    · exact h.odisj i i' g x' q q' hg hq hy' hq' (by rw [← hob]; exact hox) hox' hne
    · exact h.odisj i i' x g q q' hy hq hg hq' hox (by rw [← hob]; exact hox') hne
    · exact h.odisj i i' x x' q q' hy hq hy' hq' hox hox' hne
  · intro k o u hu
    refine keep _ _ _ (fun e1 e2 => ?_) (h.imm k o u hu)
    have := h.imd r g p hg hp ho c hc
    rw [← e1, ← e2, hu] at this
    cases this
  · intro i x q hx hq hox
    rcases get_set hrl hx with ⟨rfl, rfl⟩ | ⟨hi, hx⟩
    · exact h.imd i g q hg hq ho
    · exact h.imd i x q hx hq hox
  · intro i x q hx hq hox
    rcases get_set hrl hx with ⟨rfl, rfl⟩ | ⟨hi, hx⟩
    · exact h.dd i g q hg hq ho
    · exact h.dd i x q hx hq hox
  · refine h.loc w _ (fun k o hk => ⟨⟨?_, World.frozen?_setCell _ _ _ _⟩, objAt_setCell _ _ _ _ _⟩) (by simp [World.setCell]) h.res
    refine World.cell?_setCell_other _ _ _ _ (fun e => ?_)
    have e1 := congrArg Addr.block e
    have e2 := congrArg Addr.off e
    simp at e1 e2
    exact h.dd r g p hg hp ho c hc (by rw [e1, e2]; exact hk)
  · exact h.chg.setCell ((h.foot r g p hg hp ho).imp id (fun f => f c hc)) v
  · intro i x q hx hq hox
    rcases get_set hrl hx with ⟨rfl, rfl⟩ | ⟨hi, hx⟩
    · exact h.foot i g q hg hq ho
    · exact h.foot i x q hx hq hox

/-- a list, with some of its elements replaced by a row; what stands beyond its end is appended -/
def putAt {α : Type} : List α → Nat → α → List α
  | [], _, s => [s]
  | _ :: l, 0, s => s :: l
  | x :: l, c + 1, s => x :: putAt l c s

theorem putAt_get {α : Type} : ∀ (l : List α) (c : Nat) (s : α), c ≤ l.length → ∀ (j : Nat) (d : α), (putAt l c s)[j]? = some d → (j = c ∧ d = s) ∨ (j ≠ c ∧ l[j]? = some d)
  | [], c, s, hc, j, d, h => by
    simp only [List.length_nil, Nat.le_zero_eq] at hc; subst hc
    cases j with
    | zero => simp [putAt] at h; exact .inl ⟨rfl, h.symm⟩
    | succ j => simp [putAt] at h
  | x :: l, 0, s, hc, j, d, h => by
    cases j with
    | zero => simp [putAt] at h; exact .inl ⟨rfl, h.symm⟩
    | succ j => simp [putAt] at h; exact .inr ⟨by omega, by simpa using h⟩
  | x :: l, c + 1, s, hc, j, d, h => by
    cases j with
    | zero => simp [putAt] at h; exact .inr ⟨by omega, by simp [h]⟩
    | succ j =>
      simp only [putAt, List.getElem?_cons_succ] at h
      rcases putAt_get l c s (by simpa using hc) j d h with ⟨h1, h2⟩ | ⟨h1, h2⟩
      · exact .inl ⟨by omega, h2⟩
      · exact .inr ⟨by omega, by simpa using h2⟩

theorem putAt_length {α : Type} : ∀ (l : List α) (c : Nat) (s : α), c ≤ l.length → (putAt l c s).length = max l.length (c + 1)
  | [], c, s, hc => by simp only [List.length_nil, Nat.le_zero_eq] at hc; subst hc; rfl
  | x :: l, 0, s, _ => by simp [putAt]
  | x :: l, c + 1, s, hc => by simp [putAt, putAt_length l c s (by simpa using hc)]

def setRow (l : List SV) (c : Nat) : List SV → List SV
  | [] => l
  | s :: r => setRow (putAt l c s) (c + 1) r

theorem setRow_length (l : List SV) (c : Nat) (r : List SV) (h : c ≤ l.length) : (setRow l c r).length = max l.length (c + r.length) := by
  induction r generalizing l c with
  | nil => simp [setRow]; omega
  | cons s r ih => rw [setRow, ih _ _ (by rw [putAt_length _ _ _ h]; omega), putAt_length _ _ _ h]; simp; omega

/-- a row of cells of a region of one's own, written -/
theorem Sat.store {E : Env} {N : Nums} {r : Nat} {p : Num} (hp : N[r]? = some p) (c : Nat) : ∀ (ss : List SV) (vs : List Value) (i : Nat) {rg : List Rg} {w : World} {g : Rg}, Sat E N rg w → rg[r]? = some g →
    g.own = true → c + i ≤ g.cells.length → c + i + ss.length ≤ p.x → SV.denL N ss = some vs → (∀ v ∈ vs, one? v = true) →
    ∃ w', (storeCells ⟨p.b, p.o + c, none⟩ vs i).run E.P w = .ok () w' ∧ Sat E N (rg.set r { g with cells := setRow g.cells (c + i) ss }) w'
  | [], vs, i, rg, w, g, h, hg, ho, hl, hx, hd, h1 => by
    simp only [SV.denL, Option.some.injEq] at hd; subst hd
    refine ⟨w, rfl, ?_⟩
    simp only [setRow]
    rw [list_set_same _ _ _ (by rw [hg])]
    exact h
  | s :: ss, vs, i, rg, w, g, h, hg, ho, hl, hx, hd, h1 => by
    simp only [SV.denL] at hd
    cases hs : s.den N with
    | none => simp [hs] at hd
    | some v =>
      cases hss : SV.denL N ss with
      | none => simp [hs, hss] at hd
      | some vs' =>
        simp only [hs, hss, Option.some.injEq] at hd; subst hd
        simp only [List.length_cons] at hx
        have hci : c + i < p.x := by omega
        have hv : one? v = true := h1 v (by simp)
        have hext := h.ext r g p hg hp ho
        have hset := h.put1 (g' := { g with cells := putAt g.cells (c + i) s }) hg hp ho hci hs ho rfl (by rw [putAt_length _ _ _ hl]; omega) (fun j d hj => putAt_get _ _ _ hl j d hj)
        have hrl : r < rg.length := (List.getElem?_eq_some_iff.1 hg).1
        obtain ⟨w', hrun, hsat⟩ := Sat.store hp c ss vs' (i + 1) (rg := rg.set r { g with cells := putAt g.cells (c + i) s }) (w := w.setCell ⟨p.b, p.o + (c + i), none⟩ v) (g := { g with cells := putAt g.cells (c + i) s })
          hset (List.getElem?_set_self hrl) ho (by simp only; rw [putAt_length _ _ _ hl]; omega) (by omega) hss (fun v hv => h1 v (by simp [hv]))
        obtain ⟨hsome, hfz⟩ := h.room r g p hg hp ho (c + i) hci
        obtain ⟨v0, hw0⟩ := Option.isSome_iff_exists.1 hsome
        refine ⟨w', ?_, ?_⟩
        · simp only [storeCells, Sem.run_bind]
          rw [run_store E.P w _ v .plain (one_oneCell hv), addr_add, Nat.add_assoc]
          simp only [hw0, hfz]
          simpa [Result.andThen] using hrun
        · rw [List.set_set] at hsat
          simpa [setRow, Nat.add_assoc] using hsat

/-- a region of lists to which one was added -/
theorem get_snoc {α β : Type} {l : List α} {m : List β} {y : α} {z : β} (hlen : m.length = l.length) {i : Nat} {x : α} {q : β} (hx : (l ++ [y])[i]? = some x) (hq : (m ++ [z])[i]? = some q) :
    (l[i]? = some x ∧ m[i]? = some q) ∨ (i = l.length ∧ x = y ∧ q = z) := by
  rcases Nat.lt_or_ge i l.length with hi | hi
  · rw [List.getElem?_append_left hi] at hx
    rw [List.getElem?_append_left (by rw [hlen]; exact hi)] at hq
    exact .inl ⟨hx, hq⟩
  · rw [List.getElem?_append_right hi] at hx
    rw [List.getElem?_append_right (by rw [hlen]; exact hi)] at hq
    have hz : i - l.length = 0 := by
      have := (List.getElem?_eq_some_iff.1 hx).1
      simp at this; omega
    rw [hlen, hz] at hq
    rw [hz] at hx
    simp at hx hq
    exact .inr ⟨by omega, hx.symm, hq.symm⟩

/-- a new block: of cells (those that are known, and others), or an object -/
theorem Sat.allocW {E : Env} {N : Nums} {rg : List Rg} {w : World} (h : Sat E N rg w) (o : Obj) (g0 : Rg) (x0 : Nat)
    (hc : ∀ (j : Nat) (c : SV), g0.cells[j]? = some c → ∃ v, c.den (N ++ [⟨w.heap.size, 0, x0⟩]) = some v ∧ (w.alloc o).cell? ⟨w.heap.size, j, none⟩ = some v)
    (hx : g0.own = true → g0.cells.length ≤ x0) (hr : g0.own = true → ∀ j, j < x0 → ((w.alloc o).cell? ⟨w.heap.size, j, none⟩).isSome = true ∧ (w.alloc o).frozen? ⟨w.heap.size, j, none⟩ = false)
    (hob : ∀ ob, g0.ob = some ob → ob.den (N ++ [⟨w.heap.size, 0, x0⟩]) = some o) :
    Sat E (N ++ [⟨w.heap.size, 0, x0⟩]) (rg ++ [g0]) (w.alloc o) := by
  have hle : N.le (N ++ [⟨w.heap.size, 0, x0⟩]) := Nums.le_append _ _
  have part : ∀ (i : Nat) (x : Rg) (q : Num), (rg ++ [g0])[i]? = some x → (N ++ [⟨w.heap.size, 0, x0⟩])[i]? = some q →
      (rg[i]? = some x ∧ N[i]? = some q ∧ q.b < w.heap.size) ∨ (i = rg.length ∧ x = g0 ∧ q = ⟨w.heap.size, 0, x0⟩) := by
    intro i x q hx hq
    rcases get_snoc h.len hx hq with ⟨a, b⟩ | ⟨a, b, c⟩
    · exact .inl ⟨a, b, h.lt i q b⟩
    · exact .inr ⟨a, b, c⟩
  refine ⟨by simp [h.len], ?_, ?_, ?_, ?_, ?_, ?_, ?_, ?_, ?_, ?_, fun k o' hk => (h.dlt k o' hk).of (fun hs => by rw [World.cell?_alloc_lt _ _ _ (h.dlt k o' hk).lt]; exact hs) (objAt_alloc _ _ (h.dlt k o' hk).lt), h.loc, ?_, h.chg.alloc _, ?_⟩
  · intro i q hq
    rcases Nat.lt_or_ge i N.length with hi | hi
    · rw [List.getElem?_append_left hi] at hq
      have := h.lt i q hq; simp; omega
    · rw [List.getElem?_append_right hi] at hq
      have hz : i - N.length = 0 := by
        have := (List.getElem?_eq_some_iff.1 hq).1
        simp at this; omega
      rw [hz] at hq; simp at hq; subst hq; simp
  · intro i x q hx hq j d hj
    rcases part i x q hx hq with ⟨a, b, c⟩ | ⟨a, rfl, rfl⟩
    · obtain ⟨v, h1, h2⟩ := h.cell i x q a b j d hj
      exact ⟨v, SV.den_mono hle d h1, by rw [World.cell?_alloc_lt _ _ _ c]; exact h2⟩
    · obtain ⟨v, h1, h2⟩ := hc j d hj
      exact ⟨v, h1, by simpa using h2⟩
  · intro i x q hx' hq hox
    rcases part i x q hx' hq with ⟨a, b, c⟩ | ⟨a, rfl, rfl⟩
    · exact h.ext i x q a b hox
    · exact hx hox
  · intro i x q hx hq hox j hj
    rcases part i x q hx hq with ⟨a, b, c⟩ | ⟨a, rfl, rfl⟩
    · rw [World.frozen?_alloc_old _ _ _ (Nat.ne_of_lt c), World.cell?_alloc_lt _ _ _ c]; exact h.room i x q a b hox j hj
    · simpa using hr hox j hj
  · intro i i' x x' q q' hx hq hx' hq' hox hne j hj hb
    rcases part i x q hx hq with ⟨a, b, c⟩ | ⟨a, rfl, rfl⟩ <;> rcases part i' x' q' hx' hq' with ⟨a', b', c'⟩ | ⟨a', rfl, rfl⟩
    · exact h.disj i i' x x' q q' a b a' b' hox hne j hj hb
    · simp at hb; omega
    · simp at hb; omega
    · omega
  · intro i x q ob hx hq hxo
    rcases part i x q hx hq with ⟨a, b, c⟩ | ⟨a, rfl, rfl⟩
    · obtain ⟨⟨o', k1, k2⟩, k3⟩ := h.obj i x q ob a b hxo
      refine ⟨⟨o', Ob.den_mono hle ob k1, ?_⟩, k3⟩
      show (w.heap.push _)[q.b]? = _
      rw [Array.getElem?_push, if_neg (by omega)]; exact k2
    · refine ⟨⟨o, hob ob hxo, ?_⟩, h.chg.size, fun o' hd => Nat.lt_irrefl _ (h.dlt _ _ hd).lt⟩
      show (w.heap.push _)[w.heap.size]? = _
      simp
  · intro i i' x x' q q' hx hq hx' hq' hox hox' hne
    rcases part i x q hx hq with ⟨a, b, c⟩ | ⟨a, rfl, rfl⟩ <;> rcases part i' x' q' hx' hq' with ⟨a', b', c'⟩ | ⟨a', rfl, rfl⟩
    · exact h.odisj i i' x x' q q' a b a' b' hox hox' hne
    · simp; omega
    · simp; omega
    · omega
  · intro k o v hv
    have := h.imm k o v hv
    rw [World.cell?_alloc_lt _ _ _ (World.block_lt_of_cell? _ _ this)]; exact this
  · intro i x q hx hq hox j hj
    rcases part i x q hx hq with ⟨a, b, c⟩ | ⟨a, rfl, rfl⟩
    · exact h.imd i x q a b hox j hj
    · cases hi : E.im w.heap.size (0 + j) with
      | none => rfl
      | some v => have := World.block_lt_of_cell? _ _ (h.imm _ _ _ hi); simp at this
  · intro i x q hx hq hox
    rcases part i x q hx hq with ⟨a, b, c⟩ | ⟨a, rfl, rfl⟩
    · exact h.dd i x q a b hox
    · intro j hj hd
      have := (h.dlt _ _ hd).lt
      simp at this
  · refine h.loc w _ (fun k o' hk => ?_) (by simp) h.res
    have hlt := (h.dlt k o' hk).lt
    exact ⟨⟨World.cell?_alloc_lt _ _ _ hlt, World.frozen?_alloc_old _ _ _ (Nat.ne_of_lt hlt)⟩, objAt_alloc _ _ hlt⟩
  · intro i x q hx hq hox
    rcases part i x q hx hq with ⟨a, b, c⟩ | ⟨a, rfl, rfl⟩
    · exact h.foot i x q a b hox
    · exact .inl h.chg.size

/-- a new row of cells, of which the first are known -/
theorem Sat.allocX {E : Env} {N : Nums} {rg : List Rg} {w : World} (h : Sat E N rg w) {cs : List SV} {l m : List Value} (hl : SV.denL N cs = some l) (t : TypeId) :
    Sat E (N ++ [⟨w.heap.size, 0, (l ++ m).length⟩]) (rg ++ [⟨true, cs, none⟩]) (w.alloc (.cells (l ++ m).toArray t)) := by
  obtain ⟨hlen, hget⟩ := SV.denL_get cs hl
  refine h.allocW _ ⟨true, cs, none⟩ _ (fun j c hj => ?_) (fun _ => by simp; omega) (fun _ j hj => ?_) (fun ob hob => by cases hob)
  · obtain ⟨v, h1, h2⟩ := hget j c hj
    refine ⟨v, SV.den_mono (Nums.le_append _ _) c h1, ?_⟩
    rw [World.cell?_alloc_new]
    have : j < l.length := (List.getElem?_eq_some_iff.1 h2).1
    simp only [List.getElem?_toArray]
    rw [List.getElem?_append_left this]; exact h2
  · rw [World.cell?_alloc_new]
    simp at hj ⊢
    omega

/-- a new row of cells -/
theorem Sat.alloc {E : Env} {N : Nums} {rg : List Rg} {w : World} (h : Sat E N rg w) {cs : List SV} {l : List Value} (hl : SV.denL N cs = some l) (t : TypeId) :
    Sat E (N ++ [⟨w.heap.size, 0, l.length⟩]) (rg ++ [⟨true, cs, none⟩]) (w.alloc (.cells l.toArray t)) := by
  have := h.allocX (m := []) hl t
  simpa using this

/-- a region is given up for one that begins at its cell c -/
theorem Sat.cut {E : Env} {N : Nums} {rg : List Rg} {w : World} (h : Sat E N rg w) {r c n : Nat} {g : Rg} {p : Num} (hg : rg[r]? = some g) (hp : N[r]? = some p) (ho : g.own = true) (hc : c + n ≤ g.cells.length) :
    Sat E (N ++ [⟨p.b, p.o + c, p.x - c⟩]) (rg.set r ⟨false, [], none⟩ ++ [⟨true, (g.cells.drop c).take n, none⟩]) w := by
  have hrl : r < rg.length := (List.getElem?_eq_some_iff.1 hg).1
  have hle : N.le (N ++ [⟨p.b, p.o + c, p.x - c⟩]) := Nums.le_append _ _
  have hext := h.ext r g p hg hp ho
  -- a region of the new lists: given up, an old one, or the new
  have part : ∀ (i : Nat) (x : Rg) (q : Num), (rg.set r ⟨false, [], none⟩ ++ [⟨true, (g.cells.drop c).take n, none⟩])[i]? = some x → (N ++ [⟨p.b, p.o + c, p.x - c⟩])[i]? = some q →
      (i = r ∧ x = ⟨false, [], none⟩ ∧ q = p) ∨ (i ≠ r ∧ rg[i]? = some x ∧ N[i]? = some q) ∨ (i = rg.length ∧ x = ⟨true, (g.cells.drop c).take n, none⟩ ∧ q = ⟨p.b, p.o + c, p.x - c⟩) := by
    intro i x q hx hq
    rcases get_snoc (by rw [List.length_set]; exact h.len) hx hq with ⟨a, b⟩ | ⟨a, b, c⟩
    · rcases get_set hrl a with ⟨rfl, rfl⟩ | ⟨hi, a⟩
      · rw [hp] at b; cases b; exact .inl ⟨rfl, rfl, rfl⟩
      · exact .inr (.inl ⟨hi, a, b⟩)
    · rw [List.length_set] at a
      exact .inr (.inr ⟨a, b, c⟩)
  refine ⟨by simp [h.len], ?_, ?_, ?_, ?_, ?_, ?_, ?_, h.imm, ?_, ?_, h.dlt, h.loc, h.res, h.chg, ?_⟩
  · intro i q hq
    rcases Nat.lt_or_ge i N.length with hi | hi
    · rw [List.getElem?_append_left hi] at hq
      exact h.lt i q hq
    · rw [List.getElem?_append_right hi] at hq
      have hz : i - N.length = 0 := by
        have := (List.getElem?_eq_some_iff.1 hq).1
        simp at this; omega
      rw [hz] at hq; simp at hq; subst hq; exact h.lt r p hp
  · intro i x q hx hq j d hj
    rcases part i x q hx hq with ⟨_, rfl, _⟩ | ⟨_, a, b⟩ | ⟨_, rfl, rfl⟩
    · simp at hj
    · obtain ⟨v, h1, h2⟩ := h.cell i x q a b j d hj
      exact ⟨v, SV.den_mono hle d h1, h2⟩
    · rw [List.getElem?_take] at hj
      split at hj
      · rw [List.getElem?_drop] at hj
        obtain ⟨v, h1, h2⟩ := h.cell r g p hg hp (c + j) d hj
        exact ⟨v, SV.den_mono hle d h1, by simpa [Nat.add_assoc] using h2⟩
      · simp at hj
  · intro i x q hx hq hox
    rcases part i x q hx hq with ⟨_, rfl, _⟩ | ⟨_, a, b⟩ | ⟨_, rfl, rfl⟩
    · simp
    · exact h.ext i x q a b hox
    · simp; omega
  · intro i x q hx hq hox j hj
    rcases part i x q hx hq with ⟨_, rfl, _⟩ | ⟨_, a, b⟩ | ⟨_, rfl, rfl⟩
    · simp at hox
    · exact h.room i x q a b hox j hj
    · simp at hj
      have := h.room r g p hg hp ho (c + j) (by omega)
      simpa [Nat.add_assoc] using this
  · intro i i' x x' q q' hx hq hx' hq' hox hne j hj hb
    rcases part i x q hx hq with ⟨_, rfl, _⟩ | ⟨hi, a, b⟩ | ⟨hi, rfl, rfl⟩
    · simp at hox
    · rcases part i' x' q' hx' hq' with ⟨_, rfl, _⟩ | ⟨hi', a', b'⟩ | ⟨hi', rfl, rfl⟩
      · simp [Rg.wid] at hj
      · exact h.disj i i' x x' q q' a b a' b' hox hne j hj hb
      · simp [Rg.wid] at hj hb ⊢
        have := h.disj i r x g q p a b hg hp hox hi (c + j) (by simp [Rg.wid, ho]; omega) hb
        omega
    · rcases part i' x' q' hx' hq' with ⟨_, rfl, _⟩ | ⟨hi', a', b'⟩ | ⟨hi', rfl, rfl⟩
      · simp [Rg.wid] at hj
      · simp at hb ⊢
        have := h.disj r i' g x' p q' hg hp a' b' ho (fun e => hi' e.symm) j hj hb
        omega
      · omega
  · intro i x q ob hx hq hxo
    rcases part i x q hx hq with ⟨_, rfl, _⟩ | ⟨_, a, b⟩ | ⟨_, rfl, rfl⟩
    · simp at hxo
    · obtain ⟨⟨o', k1, k2⟩, k3⟩ := h.obj i x q ob a b hxo
      exact ⟨⟨o', Ob.den_mono hle ob k1, k2⟩, k3⟩
    · simp at hxo
  · intro i i' x x' q q' hx hq hx' hq' hox hox' hne
    rcases part i x q hx hq with ⟨_, rfl, _⟩ | ⟨_, a, b⟩ | ⟨_, rfl, rfl⟩
    · simp at hox
    · rcases part i' x' q' hx' hq' with ⟨_, rfl, _⟩ | ⟨hi', a', b'⟩ | ⟨hi', rfl, rfl⟩
      · simp at hox'
      · exact h.odisj i i' x x' q q' a b a' b' hox hox' hne
      · simp at hox'
    · simp at hox
  · intro i x q hx hq hox j hj
    rcases part i x q hx hq with ⟨_, rfl, _⟩ | ⟨_, a, b⟩ | ⟨_, rfl, rfl⟩
    · simp at hox
    · exact h.imd i x q a b hox j hj
    · simp at hj ⊢
      have := h.imd r g p hg hp ho (c + j) (by omega)
      simpa [Nat.add_assoc] using this
  · intro i x q hx hq hox
    rcases part i x q hx hq with ⟨_, rfl, _⟩ | ⟨_, a, b⟩ | ⟨_, rfl, rfl⟩
    · simp at hox
    · exact h.dd i x q a b hox
    · intro j hj
      simp at hj
      have := h.dd r g p hg hp ho (c + j) (by omega)
      simpa [Nat.add_assoc] using this
  · intro i x q hx hq hox
    rcases part i x q hx hq with ⟨_, rfl, _⟩ | ⟨_, a, b⟩ | ⟨_, rfl, rfl⟩
    · simp at hox
    · exact h.foot i x q a b hox
    · rcases h.foot r g p hg hp ho with hf | hf
      · exact .inl hf
      · refine .inr fun j hj => ?_
        simp at hj
        have := hf (c + j) (by omega)
        simpa [Nat.add_assoc] using this

/-- an object of one's own turns -/
theorem Sat.setOb {E : Env} {N : Nums} {rg : List Rg} {w : World} (h : Sat E N rg w) {r : Nat} {g : Rg} {p : Num} {ob ob' : Ob} {o' : Obj} (hg : rg[r]? = some g) (hp : N[r]? = some p) (hob : g.ob = some ob) (hd : ob'.den N = some o') :
    Sat E N (rg.set r { g with ob := some ob' }) { w with heap := w.heap.setIfInBounds p.b o' } := by
  have hrl : r < rg.length := (List.getElem?_eq_some_iff.1 hg).1
  obtain ⟨⟨o, ho1, ho2⟩, hW⟩ := h.obj r g p ob hg hp hob
  have hpl : p.b < w.heap.size := h.lt r p hp
  have notc : ∀ off u, w.cell? ⟨p.b, off, none⟩ = some u → False := by
    intro off u hu
    unfold World.cell? at hu
    rw [ho2] at hu
    cases ob <;> simp only [Ob.den] at ho1 <;> split at ho1 <;> first | (cases ho1; done) | (cases ho1; simp at hu)
  have keep : ∀ (k off : Nat) (u : Value), w.cell? ⟨k, off, none⟩ = some u → World.cell? { w with heap := w.heap.setIfInBounds p.b o' } ⟨k, off, none⟩ = some u := by
    intro k off u hu
    have hne : p.b ≠ k := fun e => by subst e; exact notc _ _ hu
    unfold World.cell? at hu ⊢
    simp only [Array.getElem?_setIfInBounds_ne hne]
    exact hu
  have fz : ∀ (k off : Nat) (u : Value), w.cell? ⟨k, off, none⟩ = some u → World.frozen? { w with heap := w.heap.setIfInBounds p.b o' } ⟨k, off, none⟩ = w.frozen? ⟨k, off, none⟩ := by
    intro k off u hu
    have hne : p.b ≠ k := fun e => by subst e; exact notc _ _ hu
    unfold World.frozen?
    simp only [Array.getElem?_setIfInBounds_ne hne]
  have sameD : ∀ k o, E.D k o → (w.heap.setIfInBounds p.b o')[k]? = w.heap[k]? := fun k o hk => Array.getElem?_setIfInBounds_ne (fun e => hW.2 o (by rw [e]; exact hk))
  have old : ∀ (i : Nat) (x : Rg), (rg.set r { g with ob := some ob' })[i]? = some x → ∃ y, rg[i]? = some y ∧ x.own = y.own ∧ x.cells = y.cells ∧ (∀ q, x.wid q = y.wid q) ∧ x.ob.isSome = y.ob.isSome := by
    intro i x hx
    rcases get_set hrl hx with ⟨rfl, rfl⟩ | ⟨_, hx⟩
    · exact ⟨g, hg, rfl, rfl, fun _ => rfl, by simp [hob]⟩
    · exact ⟨x, hx, rfl, rfl, fun _ => rfl, rfl⟩
  refine ⟨by simpa using h.len, fun i q hq => by simpa using h.lt i q hq, ?_, ?_, ?_, ?_, ?_, ?_, fun k o v hv => keep _ _ _ (h.imm k o v hv), ?_, ?_, fun k o hk => (h.dlt k o hk).of (fun hs => by
    obtain ⟨u, hu⟩ := Option.isSome_iff_exists.1 hs
    rw [keep _ _ _ hu]; rfl) (objAt_same (sameD k o hk)), h.loc, ?_, h.chg.setObj hW.1 o', ?_⟩
  · intro i x q hx hq j d hj
    obtain ⟨y, hy, _, hyc, _⟩ := old i x hx
    rw [hyc] at hj
    obtain ⟨v, h1, h2⟩ := h.cell i y q hy hq j d hj
    exact ⟨v, h1, keep _ _ _ h2⟩
  · intro i x q hx hq hox
    obtain ⟨y, hy, hyo, hyc, _⟩ := old i x hx
    rw [hyc]; exact h.ext i y q hy hq (by rw [← hyo]; exact hox)
  · intro i x q hx hq hox j hj
    obtain ⟨y, hy, hyo, hyc, _⟩ := old i x hx
    obtain ⟨k1, k2⟩ := h.room i y q hy hq (by rw [← hyo]; exact hox) j hj
    obtain ⟨u, hu⟩ := Option.isSome_iff_exists.1 k1
    rw [keep _ _ _ hu, fz _ _ _ hu]
    exact ⟨rfl, k2⟩
  · intro i i' x x' q q' hx hq hx' hq' hox hne j hj hb
    obtain ⟨y, hy, hyo, hyc, _⟩ := old i x hx
    obtain ⟨y', hy', hyo', hyc', hw', _⟩ := old i' x' hx'
    exact h.disj i i' y y' q q' hy hq hy' hq' (by rw [← hyo]; exact hox) hne j (by rw [← hw']; exact hj) hb
  · intro i x q ob1 hx hq hxo
    rcases get_set hrl hx with ⟨rfl, rfl⟩ | ⟨hi, hx⟩
    · rw [hp] at hq; cases hq
      simp only [Option.some.injEq] at hxo; subst hxo
      exact ⟨⟨o', hd, by simp [hpl]⟩, hW⟩
    · obtain ⟨⟨o1, k1, k2⟩, k3⟩ := h.obj i x q ob1 hx hq hxo
      refine ⟨⟨o1, k1, ?_⟩, k3⟩
      have hne : p.b ≠ q.b := h.odisj r i g x p q hg hp hx hq (by simp [hob]) (by simp [hxo]) (fun e => hi e.symm)
      simp only [Array.getElem?_setIfInBounds_ne hne]
      exact k2
  · intro i i' x x' q q' hx hq hx' hq' hox hox' hne
    obtain ⟨y, hy, hyo, hyc, _, hs⟩ := old i x hx
    obtain ⟨y', hy', hyo', hyc', _, hs'⟩ := old i' x' hx'
    exact h.odisj i i' y y' q q' hy hq hy' hq' (by rw [← hs]; exact hox) (by rw [← hs']; exact hox') hne
  · intro i x q hx hq hox
    obtain ⟨y, hy, hyo, hyc, _⟩ := old i x hx
    exact h.imd i y q hy hq (by rw [← hyo]; exact hox)
  · intro i x q hx hq hox
    obtain ⟨y, hy, hyo, hyc, _⟩ := old i x hx
    exact h.dd i y q hy hq (by rw [← hyo]; exact hox)
  · refine h.loc w _ (fun k o hk => ?_) (by simp) h.res
    have e := sameD k o hk
    exact ⟨⟨by unfold World.cell?; simp only [e], by unfold World.frozen?; simp only [e]⟩, objAt_same e⟩
  · intro i x q hx hq hox
    obtain ⟨y, hy, hyo, hyc, _⟩ := old i x hx
    exact h.foot i y q hy hq (by rw [← hyo]; exact hox)

end Go.Eng
