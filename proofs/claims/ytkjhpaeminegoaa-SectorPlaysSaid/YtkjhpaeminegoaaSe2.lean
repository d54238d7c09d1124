import Derived.Test.YtkjhpaeminegoaaEC
import Derived.MapKept
import Derived.Conc.LoneCalls
import Derived.Test.YtkjhpaeminegoaaTab

namespace Go.Eng
def AllR (P : Num → Rg → Prop) : Nums → List Rg → Prop
  | [], [] => True
  | p :: N, g :: rg => P p g ∧ AllR P N rg
  | _, _ => False
def SepR (p : Num) (g : Rg) (p' : Num) (g' : Rg) : Prop := g.own = true ∨ g'.own = true → ∀ j j', j < g.wid p → j' < g'.wid p' → ¬ (p.b = p'.b ∧ p.o + j = p'.o + j')
def PairR : Nums → List Rg → Prop
  | [], [] => True
  | p :: N, g :: rg => AllR (fun p' g' => SepR p g p' g') N rg ∧ PairR N rg
  | _, _ => False
structure RgAt (w : World) (N : Nums) (p : Num) (g : Rg) : Prop where
  lt : p.b < w.heap.size
  ob : g.ob = none
  cell : ∀ (j : Nat) (c : SV), g.cells[j]? = some c → ∃ v, c.den N = some v ∧ w.cell? ⟨p.b, p.o + j, none⟩ = some v
  ext : g.own = true → g.cells.length ≤ p.x
  room : g.own = true → ∀ j, j < p.x → (w.cell? ⟨p.b, p.o + j, none⟩).isSome = true ∧ w.frozen? ⟨p.b, p.o + j, none⟩ = false
theorem AllR.get {P : Num → Rg → Prop} : ∀ {N : Nums} {rg : List Rg}, AllR P N rg → N.length = rg.length ∧ ∀ (r : Nat) (g : Rg) (p : Num), rg[r]? = some g → N[r]? = some p → P p g
  | [], [], _ => ⟨rfl, fun r g p h => by simp at h⟩
  | p :: N, g :: rg, h => by
    obtain ⟨h1, h2⟩ := h
    obtain ⟨k1, k2⟩ := AllR.get h2
    refine ⟨by simp [k1], fun r g' p' hg hp => ?_⟩
    cases r with
    | zero => simp at hg hp; subst hg; subst hp; exact h1
    | succ r => exact k2 r g' p' (by simpa using hg) (by simpa using hp)
  | [], _ :: _, h => h.elim
  | _ :: _, [], h => h.elim
theorem SepR.symm {p p' : Num} {g g' : Rg} (h : SepR p g p' g') : SepR p' g' p g := fun ho j j' hj hj' ⟨e1, e2⟩ => h ho.symm j' j hj' hj ⟨e1.symm, e2.symm⟩
theorem PairR.get : ∀ {N : Nums} {rg : List Rg}, PairR N rg → ∀ (r r' : Nat) (g g' : Rg) (p p' : Num), rg[r]? = some g → N[r]? = some p → rg[r']? = some g' → N[r']? = some p' → r ≠ r' → SepR p g p' g'
  | [], [], _, r, _, _, _, _, _, h, _, _, _, _ => by simp at h
  | p :: N, g :: rg, h, r, r', g1, g2, p1, p2, hg, hp, hg', hp', hne => by
    obtain ⟨h1, h2⟩ := h
    cases r with
    | zero =>
      simp at hg hp; subst hg; subst hp
      cases r' with
      | zero => exact absurd rfl hne
      | succ r' => exact h1.get.2 r' g2 p2 (by simpa using hg') (by simpa using hp')
    | succ r =>
      cases r' with
      | zero =>
        simp at hg' hp'; subst hg'; subst hp'
        exact (h1.get.2 r g1 p1 (by simpa using hg) (by simpa using hp)).symm
      | succ r' => exact PairR.get h2 r r' g1 g2 p1 p2 (by simpa using hg) (by simpa using hp) (by simpa using hg') (by simpa using hp') (by omega)
  | [], _ :: _, h, _, _, _, _, _, _, _, _, _, _, _ => h.elim
  | _ :: _, [], h, _, _, _, _, _, _, _, _, _, _, _ => h.elim
theorem Sat.stdL {P : Program} {fn : Func} {R : Ending → World → Prop} {w : World} {N : Nums} {rg : List Rg} {B : SchT} (h : AllR (RgAt w N) N rg) (hs : PairR N rg) : Sat (Eng.std P fn R w N rg B).toEnv N rg w := by
  obtain ⟨h1, h2⟩ := h.get
  have get : ∀ {r : Nat} {p : Num}, N[r]? = some p → ∃ g, rg[r]? = some g := fun {r p} hp => ⟨_, List.getElem?_eq_getElem (by have := (List.getElem?_eq_some_iff.1 hp).1; omega)⟩
  have getN : ∀ {r : Nat} {g : Rg}, rg[r]? = some g → ∃ p, N[r]? = some p := fun {r p} hp => ⟨_, List.getElem?_eq_getElem (by have := (List.getElem?_eq_some_iff.1 hp).1; omega)⟩
  refine Sat.std h1 (fun r p hp => ?_) (fun r g p hg hp => (h2 r g p hg hp).cell) (fun r g p hg hp => (h2 r g p hg hp).ext) (fun r g p hg hp => (h2 r g p hg hp).room) (fun r r' g g' p p' hg hp hg' hp' ho hne j hj hb => ?_) (fun r g hg => ?_)
  · obtain ⟨g, hg⟩ := get hp
    exact (h2 r g p hg hp).lt
  · have := hs.get r r' g g' p p' hg hp hg' hp' hne (.inl ho) (p'.o + j - p.o) j
    unfold Rg.wid at this
    rw [ho] at this
    simp only [cond_true] at this
    rcases Nat.lt_or_ge (p'.o + j) p.o with h3 | h3
    · exact .inl h3
    · refine .inr ?_
      rcases Nat.lt_or_ge (p'.o + j) (p.o + p.x) with h4 | h4
      · exact absurd ⟨hb.symm, by omega⟩ (this (by omega) hj)
      · exact h4
  · obtain ⟨p, hp⟩ := getN hg
    exact (h2 r g p hg hp).ob
theorem inR_nil {rg : List Rg} {k o : Nat} : ¬ InR [] rg k o := by
  rintro ⟨r, g, p, _, hp, _⟩
  simp at hp
theorem inR_cons {p : Num} {N : Nums} {g : Rg} {rg : List Rg} {k o : Nat} (h : InR (p :: N) (g :: rg) k o) : (g.own = true ∧ k = p.b ∧ p.o ≤ o ∧ o < p.o + p.x) ∨ InR N rg k o := by
  obtain ⟨r, g', p', hg, hp, h1, h2, h3, h4⟩ := h
  cases r with
  | zero => simp at hg hp; subst hg; subst hp; exact .inl ⟨h1, h2, h3, h4⟩
  | succ r => exact .inr ⟨r, g', p', by simpa using hg, by simpa using hp, h1, h2, h3, h4⟩
theorem elsewhere_not {N : Nums} {rg : List Rg} {w : World} {k o : Nat} (h : ¬ InR N rg k o) : elsewhere N rg w k o = w.cell? ⟨k, o, none⟩ := by
  unfold elsewhere
  rw [if_neg h]
theorem some_of_chg {O : Nat → Nat → Prop} {w w' : World} (h : Chg O w w') {k : Nat} (o : Nat) (hc : (w.cell? ⟨k, o, none⟩).isSome = true) : (w'.cell? ⟨k, o, none⟩).isSome = true := by
  cases hh : w.heap[k]? with
  | none => simp [World.cell?, hh] at hc
  | some x =>
    cases x with
    | cells c e f =>
      obtain ⟨c', h1, h2, _⟩ := h.cells k c e f hh
      simp only [World.cell?, hh, h1] at hc ⊢
      have : o < c.size := by
        have := Option.isSome_iff_exists.1 hc
        obtain ⟨v, hv⟩ := this
        exact (Array.getElem?_eq_some_iff.1 hv).1
      rw [Array.getElem?_eq_getElem (by omega)]; rfl
    | _ => simp [World.cell?, hh] at hc
theorem Sat.row {E : Env} {N : Nums} {rg : List Rg} {w : World} (hS : Sat E N rg w) {r : Nat} {g : Rg} {p : Num} {vs : List Value} (hg : rg[r]? = some g) (hp : N[r]? = some p) (hd : SV.denL N g.cells = some vs) (q : Nat) (v : Value) (hq : vs[q]? = some v) : w.cell? ⟨p.b, p.o + q, none⟩ = some v := by
  obtain ⟨h1, h2⟩ := SV.denL_get _ hd
  obtain ⟨c, hc⟩ : ∃ c, g.cells[q]? = some c := ⟨_, List.getElem?_eq_getElem (by rw [← h1]; exact (List.getElem?_eq_some_iff.1 hq).1)⟩
  obtain ⟨u, k1, k2⟩ := h2 q c hc
  obtain ⟨u', k3, k4⟩ := hS.cell r g p hg hp q c hc
  rw [k1] at k3
  rw [hq] at k2
  cases k3; cases k2
  exact k4
section
variable {E : Ctx} {T : Tab} {all : Array Oper} {i : Nat} {rest : List Nat} {k : List It} {s : St} {o : Oper} {f : Fr}
theorem X.names (h : ∀ N : Nums, E.N0.le N → N.length = s.rg.length → X { E with N0 := N } k s) : X E k s := by
  refine X.conv fun N a w hN hf hS => ?_
  exact ⟨{ E with N0 := N }, s, rfl, rfl, rfl, rfl, ⟨N, Nums.le.refl _, hf, hS.env rfl rfl rfl rfl rfl⟩, h N hN hS.len⟩
end
theorem Sat.recell {E : Env} {N : Nums} {rg : List Rg} {w : World} (h : Sat E N rg w) {r : Nat} {g : Rg} {cs' : List SV} (hg : rg[r]? = some g) (hl : cs'.length = g.cells.length) (hd : ∀ (j : Nat) (c c' : SV), g.cells[j]? = some c → cs'[j]? = some c' → ∀ v, c.den N = some v → c'.den N = some v) : Sat E N (rg.set r { g with cells := cs' }) w := by
  have hrl : r < rg.length := (List.getElem?_eq_some_iff.1 hg).1
  have old : ∀ {i : Nat} {x : Rg}, (rg.set r { g with cells := cs' })[i]? = some x → ∃ x0, rg[i]? = some x0 ∧ x0.own = x.own ∧ x0.ob = x.ob ∧ x0.cells.length = x.cells.length ∧ ∀ (j : Nat) (c : SV), x.cells[j]? = some c → ∃ c0, x0.cells[j]? = some c0 ∧ ∀ v, c0.den N = some v → c.den N = some v := by
    intro i x hx
    rcases get_set hrl hx with ⟨rfl, rfl⟩ | ⟨hi, hx⟩
    · refine ⟨g, hg, rfl, rfl, hl.symm, fun j c hc => ?_⟩
      have hc : cs'[j]? = some c := hc
      obtain ⟨c0, h0⟩ : ∃ c0, g.cells[j]? = some c0 := ⟨_, List.getElem?_eq_getElem (by rw [← hl]; exact (List.getElem?_eq_some_iff.1 hc).1)⟩
      exact ⟨c0, h0, hd j c0 c h0 hc⟩
    · exact ⟨x, hx, rfl, rfl, rfl, fun j c hc => ⟨c, hc, fun v hv => hv⟩⟩
  refine ⟨by simp [h.len], h.lt, ?_, ?_, ?_, ?_, ?_, ?_, h.imm, ?_, ?_, h.dlt, h.loc, h.res, h.chg, ?_⟩
  · intro i x q hx hq j c hc
    obtain ⟨x0, k1, _, _, _, k5⟩ := old hx
    obtain ⟨c0, k6, k7⟩ := k5 j c hc
    obtain ⟨v, k8, k9⟩ := h.cell i x0 q k1 hq j c0 k6
    exact ⟨v, k7 v k8, k9⟩
  · intro i x q hx hq ho
    obtain ⟨x0, k1, k2, _, k4, _⟩ := old hx
    rw [← k4]; exact h.ext i x0 q k1 hq (k2.trans ho)
  · intro i x q hx hq ho
    obtain ⟨x0, k1, k2, _⟩ := old hx
    exact h.room i x0 q k1 hq (k2.trans ho)
  · intro i i' x x' q q' hx hq hx' hq' ho hne j hj
    obtain ⟨x0, k1, k2, _⟩ := old hx
    obtain ⟨x1, m1, m2, _, m4, _⟩ := old hx'
    refine h.disj i i' x0 x1 q q' k1 hq m1 hq' (k2.trans ho) hne j ?_
    unfold Rg.wid at hj ⊢
    rw [m2, m4]; exact hj
  · intro i x q ob hx hq ho
    obtain ⟨x0, k1, _, k3, _⟩ := old hx
    exact h.obj i x0 q ob k1 hq (k3.trans ho)
  · intro i i' x x' q q' hx hq hx' hq' ho ho' hne
    obtain ⟨x0, k1, _, k3, _⟩ := old hx
    obtain ⟨x1, m1, _, m3, _⟩ := old hx'
    exact h.odisj i i' x0 x1 q q' k1 hq m1 hq' (by rw [k3]; exact ho) (by rw [m3]; exact ho') hne
  · intro i x q hx hq ho
    obtain ⟨x0, k1, k2, _⟩ := old hx
    exact h.imd i x0 q k1 hq (k2.trans ho)
  · intro i x q hx hq ho
    obtain ⟨x0, k1, k2, _⟩ := old hx
    exact h.dd i x0 q k1 hq (k2.trans ho)
  · intro i x q hx hq ho
    obtain ⟨x0, k1, k2, _⟩ := old hx
    exact h.foot i x0 q k1 hq (k2.trans ho)
theorem X.recell {E : Ctx} {k : List It} {s : St} (r : Nat) (g : Rg) (cs' : List SV) (hg : s.rg[r]? = some g) (hl : cs'.length = g.cells.length) (hd : ∀ N, E.N0.le N → ∀ (j : Nat) (c c' : SV), g.cells[j]? = some c → cs'[j]? = some c' → ∀ v, c.den N = some v → c'.den N = some v) (h : X E k ⟨s.fr, s.rg.set r { g with cells := cs' }⟩) : X E k s := by
  refine X.conv fun N a w hN hf hS => ?_
  exact ⟨E, ⟨s.fr, s.rg.set r { g with cells := cs' }⟩, rfl, rfl, rfl, rfl, ⟨N, hN, hf, hS.recell hg hl (hd N hN)⟩, h⟩
theorem X.less {E : Ctx} {k : List It} {s : St} (ts : List Nat) (h : X E k ⟨s.fr.filter fun p => ts.elem p.1, s.rg⟩) : X E k s := by
  refine X.conv fun N a w hN hf hS => ?_
  refine ⟨E, ⟨s.fr.filter fun p => ts.elem p.1, s.rg⟩, rfl, rfl, rfl, rfl, ⟨N, hN, ⟨hf.size, hf.defers, fun t => ?_⟩, hS⟩, h⟩
  have := hf.ok t
  have key : ∀ f : Fr, look (f.filter fun p => ts.elem p.1) t = look f t ∨ look (f.filter fun p => ts.elem p.1) t = .dead := fun f => by
    induction f with
    | nil => exact .inl rfl
    | cons p f ih =>
      obtain ⟨k, v⟩ := p
      simp only [List.filter]
      cases he : ts.elem k with
      | true =>
        simp only [look]
        cases Nat.beq k t with
        | true => exact .inl rfl
        | false => exact ih
      | false =>
        simp only [look]
        cases hk : Nat.beq k t with
        | false => exact ih
        | true =>
          have hk := Nat.eq_of_beq_eq_true hk
          subst hk
          refine .inr ?_
          clear ih
          induction f with
          | nil => rfl
          | cons p f ih =>
            obtain ⟨k', v'⟩ := p
            simp only [List.filter]
            cases he' : ts.elem k' with
            | true =>
              simp only [look]
              cases hk' : Nat.beq k' k with
              | false => exact ih
              | true =>
                have hk' := Nat.eq_of_beq_eq_true hk'
                subst hk'
                rw [he] at he'; cases he'
            | false => exact ih
  rcases key s.fr with e | e
  · rw [e]; exact this
  · rw [e]; trivial
theorem X.drop {E : Ctx} {k : List It} {s : St} (r : Nat) (hr : r < s.rg.length) (h : X E k ⟨s.fr, s.rg.set r ⟨false, [], none⟩⟩) : X E k s := by
  refine X.conv fun N a w hN hf hS => ?_
  exact ⟨E, ⟨s.fr, s.rg.set r ⟨false, [], none⟩⟩, rfl, rfl, rfl, rfl, ⟨N, hN, hf, hS.retire hr⟩, h⟩
theorem nil_le (N : Nums) : Nums.le [] N := fun r p h => by simp at h
theorem X.recell1 {E : Ctx} {k : List It} {s : St} (r j : Nat) {g : Rg} {c : SV} (c' : SV) (hg : s.rg[r]? = some g) (hj : g.cells[j]? = some c) (hd : ∀ N, E.N0.le N → ∀ v, c.den N = some v → c'.den N = some v) (h : X E k ⟨s.fr, s.rg.set r { g with cells := g.cells.set j c' }⟩) : X E k s := by
  refine X.recell r g (g.cells.set j c') hg (by simp) (fun N hN q d d' h1 h2 v hv => ?_) h
  have hjl : j < g.cells.length := (List.getElem?_eq_some_iff.1 hj).1
  rcases get_set hjl h2 with ⟨rfl, rfl⟩ | ⟨_, h2⟩
  · rw [hj] at h1; cases h1
    exact hd N hN v hv
  · rw [h1] at h2; cases h2
    exact hv
end Go.Eng
namespace Go.Eng
structure Told (b : SB) (v : Bool) : Prop where
  eq : b.den = v
structure SlcS where
  (j x lo hi d t zl zh : Nat) (sx r : SV)
def SlcS.ok (ops : Array Oper) (q : SlcS) : Bool := match nth ops.toList q.j with
  | some o => (match o.op with | .slice t' (.tmp x) (some (.tmp lo)) (some (.tmp hi)) none => Nat.beq t' q.t && (Nat.beq x q.x && (Nat.beq lo q.lo && Nat.beq hi q.hi)) | _ => false) && (match o.dst with | some d => Nat.beq d q.d | none => false)
  | none => false
def SlcS.good (P : Program) (N0 : Nums) (q : SlcS) : Prop := ∃ (e sz b y m c : Nat), P.underlying q.t = some (.slice e) ∧ (∀ w, (sizeOf e).run P w = .ok sz w) ∧ q.zl ≤ q.zh ∧ q.zh ≤ c ∧ q.zl < c ∧
  ∀ N, N0.le N → q.sx.den N = some (.slice (some ⟨b, y, none⟩) m c) ∧ q.r.den N = some (.slice (some ⟨b, y + q.zl * sz, none⟩) (q.zh - q.zl) (c - q.zl))
end Go.Eng
namespace Go.Eng
end Go.Eng
namespace Go.Eng
open Go.MapKept
def notCells : Obj → Prop
  | .cells _ _ _ => False
  | _ => True
def putOb (w : World) (b : Nat) (x : Obj) : World := { w with heap := w.heap.setIfInBounds b x }
theorem objAt_lt {w : World} {b : Nat} (h : (objAt w b).isSome = true) : b < w.heap.size := by
  obtain ⟨x, hx⟩ := Option.isSome_iff_exists.1 h
  exact (Array.getElem?_eq_some_iff.1 (heap_objAt hx)).1
theorem heap_put_same {w : World} {b : Nat} {x : Obj} (h : b < w.heap.size) : (putOb w b x).heap[b]? = some x := by simp [putOb, h]
theorem heap_put_ne {w : World} {b k : Nat} {x : Obj} (h : k ≠ b) : (putOb w b x).heap[k]? = w.heap[k]? := by
  simp only [putOb]; rw [Array.getElem?_setIfInBounds_ne (fun e => h e.symm)]
theorem size_put {w : World} {b : Nat} {x : Obj} : (putOb w b x).heap.size = w.heap.size := by simp [putOb]
theorem objAt_of {w : World} {k : Nat} {x : Obj} (h : w.heap[k]? = some x) (hn : notCells x) : objAt w k = some x :=
  objAt_some h (fun c e f e' => by subst e'; exact hn)
theorem objAt_put_same {w : World} {b : Nat} {x : Obj} (h : b < w.heap.size) (hn : notCells x) : objAt (putOb w b x) b = some x := objAt_of (heap_put_same h) hn
theorem objAt_put_ne {w : World} {b k : Nat} {x : Obj} (h : k ≠ b) : objAt (putOb w b x) k = objAt w k := objAt_same (heap_put_ne h)
theorem cell_obj {w : World} {b o : Nat} {x : Obj} (h : objAt w b = some x) : w.cell? ⟨b, o, none⟩ = none := by
  unfold objAt at h
  unfold World.cell?
  split at h
  · cases h
  · simp only [h]
    cases x with
    | cells c e f => rename_i hn; exact absurd h (fun h' => hn c e f h')
    | _ => rfl
theorem cell_put {w : World} {b : Nat} {x : Obj} (h : (objAt w b).isSome = true) (hn : notCells x) (k o : Nat) : (putOb w b x).cell? ⟨k, o, none⟩ = w.cell? ⟨k, o, none⟩ := by
  by_cases e : k = b
  · subst e
    obtain ⟨y, hy⟩ := Option.isSome_iff_exists.1 h
    rw [cell_obj (objAt_put_same (objAt_lt h) hn), cell_obj hy]
  · unfold World.cell?; simp only [heap_put_ne e]
theorem There.put {w : World} {b : Nat} {x : Obj} (h : (objAt w b).isSome = true) (hn : notCells x) {k o : Nat} (ht : There w k o) : There (putOb w b x) k o := by
  rcases ht with ht | ht
  · exact .inl (by rw [cell_put h hn]; exact ht)
  · right
    by_cases e : k = b
    · subst e; rw [objAt_put_same (objAt_lt h) hn]; rfl
    · rw [objAt_put_ne e]; exact ht
theorem Chg.put {O : Nat → Nat → Prop} {w : World} {b : Nat} {x : Obj} (h : (objAt w b).isSome = true) (ho : ∃ o, O b o) : Chg O w (putOb w b x) := by
  refine ⟨rfl, rfl, rfl, by rw [size_put]; exact Nat.le_refl _, fun k hk hn => ?_, fun k c e f hc => ?_⟩
  · refine heap_put_ne (fun e => ?_)
    subst e
    obtain ⟨o, ho⟩ := ho
    exact hn o ho
  · have hne : k ≠ b := fun e' => by
      subst e'
      unfold objAt at h
      rw [hc] at h; cases h
    exact ⟨c, by rw [heap_put_ne hne]; exact hc, rfl, fun _ _ => rfl⟩
theorem alloc_heap (w : World) (x : Obj) : (w.alloc x).heap = w.heap.push x := rfl
theorem objAt_new (w : World) (x : Obj) (hn : notCells x) : objAt (w.alloc x) w.heap.size = some x := objAt_of (by rw [alloc_heap]; simp) hn
theorem objAt_chg {O : Nat → Nat → Prop} {w w' : World} (h : Chg O w w') {k : Nat} (hk : (objAt w k).isSome = true) (ho : ∀ o, ¬ O k o) : objAt w' k = objAt w k :=
  objAt_same (h.same k (objAt_lt hk) ho)
section
variable {E : Ctx} {T : Tab} {all : Array Oper} {i : Nat} {rest : List Nat} {k : List It} {s : St} {o : Oper} {f : Fr}
theorem Sat.putR {N : Nums} {rg : List Rg} {w : World} {b : Nat} {x : Obj} {R' : World → Prop} (h : Sat E.toEnv N rg w) (hb : (objAt w b).isSome = true) (hn : notCells x) (hD : ∃ o, E.D b o) (hO : ∀ k o, E.D k o → E.W.heap.size ≤ k ∨ E.O k o) (him : ∀ k o, E.D k o → E.im k o = none)
    (hrg : ∀ g ∈ rg, g.own = true ∨ g.cells = []) (hl : Loc E.D R') (hR : R' (putOb w b x)) : Sat (E.withR R').toEnv N rg (putOb w b x) :=
  h.turn (Chg.put hb hD) hO him hrg (fun _ _ hk => ⟨.inl hk, There.put hb hn (h.dlt _ _ hk)⟩) hl hR
theorem X.putR (R' : World → Prop) (b : Nat) (r : SV) (ho : nth all.toList i = some o) (hg : o.guard = none) (hD : ∃ o, E.D b o) (hO : ∀ k o, E.D k o → E.W.heap.size ≤ k ∨ E.O k o) (him : ∀ k o, E.D k o → E.im k o = none) (hrg : ∀ g ∈ s.rg, g.own = true ∨ g.cells = []) (hl : Loc E.D R')
    (hex : ∀ N a w, E.N0.le N → FrOk E.n N s.fr a → Sat E.toEnv N s.rg w → ∃ x v, (execOp a.eval o).run E.P w = .ok (.value v) (putOb w b x) ∧ r.den N = some v ∧ (objAt w b).isSome = true ∧ notCells x ∧ R' (putOb w b x))
    (hp : putO E.n s.fr o.dst (.val r) = some f) (hk : X (E.withR R') (.ops all rest :: k) ⟨f, s.rg⟩) : X E (.ops all (i :: rest) :: k) s := by
  refine X.oper ho hg fun N a w hN hfr hS => ?_
  obtain ⟨x, v, h1, hv, h2, h3, h4⟩ := hex N a w hN hfr hS
  unfold Oper.wp
  rw [h1]
  exact hk N _ _ hN (putO_sound hfr hv hp) (hS.putR h2 h3 hD hO him hrg hl h4)
theorem X.putR0 (R' : World → Prop) (b : Nat) (ho : nth all.toList i = some o) (hg : o.guard = none) (hD : ∃ o, E.D b o) (hO : ∀ k o, E.D k o → E.W.heap.size ≤ k ∨ E.O k o) (him : ∀ k o, E.D k o → E.im k o = none) (hrg : ∀ g ∈ s.rg, g.own = true ∨ g.cells = []) (hl : Loc E.D R')
    (hex : ∀ N a w, E.N0.le N → FrOk E.n N s.fr a → Sat E.toEnv N s.rg w → ∃ x, (execOp a.eval o).run E.P w = .ok .skip (putOb w b x) ∧ (objAt w b).isSome = true ∧ notCells x ∧ R' (putOb w b x))
    (hp : putO E.n s.fr o.dst (.val (.tup [])) = some f) (hk : X (E.withR R') (.ops all rest :: k) ⟨f, s.rg⟩) : X E (.ops all (i :: rest) :: k) s := by
  refine X.oper ho hg fun N a w hN hfr hS => ?_
  obtain ⟨x, h1, h2, h3, h4⟩ := hex N a w hN hfr hS
  unfold Oper.wp
  rw [h1]
  exact hk N _ _ hN (putO_sound (x := undef) hfr rfl hp) (hS.putR h2 h3 hD hO him hrg hl h4)
theorem X.newR (x : Obj) (hn : notCells x) (mk : Nat → Value) (hmk : ∀ b, one? (mk b) = true) (ho : nth all.toList i = some o) (hg : o.guard = none)
    (hex : ∀ N a w, E.N0.le N → FrOk E.n N s.fr a → Sat E.toEnv N s.rg w → (execOp a.eval o).run E.P w = .ok (.value (mk w.heap.size)) (w.alloc x)) {F : Nat → Fr} (hp : ∀ b, putO E.n s.fr o.dst (.val (.raw (mk b))) = some (F b))
    (hk : ∀ b, E.W.heap.size ≤ b → (∀ o, E.im b o = none) → (∀ o, ¬ E.D b o) → X (E.withDR (fun k o => E.D k o ∨ k = b) (fun w => E.R w ∧ objAt w b = some x)) (.ops all rest :: k) ⟨F b, s.rg⟩) : X E (.ops all (i :: rest) :: k) s := by
  refine X.oper ho hg fun N a w hN hfr hS => ?_
  unfold Oper.wp
  rw [hex N a w hN hfr hS]
  have hnim : ∀ o, E.im w.heap.size o = none := fun o => by
    cases hi : E.im w.heap.size o with
    | none => rfl
    | some v => have := World.block_lt_of_cell? _ _ (hS.imm _ _ _ hi); simp at this
  have hnd : ∀ o, ¬ E.D w.heap.size o := fun o hd => Nat.lt_irrefl _ (hS.dlt _ _ hd).lt
  have hA := hS.allocW x ⟨false, [], none⟩ 0 (fun j c hj => by simp at hj) (fun h => by cases h) (fun h => by cases h) (fun ob h => by cases h)
  have hle : N.le (N ++ [⟨w.heap.size, 0, 0⟩]) := Nums.le_append _ _
  have hS' : Sat (E.withDR (fun k o => E.D k o ∨ k = w.heap.size) (fun w' => E.R w' ∧ objAt w' w.heap.size = some x)).toEnv N s.rg (w.alloc x) := by
    have hc : Chg (fun _ _ => False) w (w.alloc x) := (Chg.refl _ w).alloc x
    have h0 := hS.after0 hc
    refine { h0 with dd := ?_, dlt := ?_, obj := ?_, loc := ?_, res := ⟨h0.res, objAt_new w x hn⟩ }
    · intro r g p ob hr hp hob
      obtain ⟨k1, k2, k3⟩ := h0.obj r g p ob hr hp hob
      refine ⟨k1, k2, fun o hd => hd.elim (k3 o) (fun e => ?_)⟩
      have := hS.lt r p hp
      omega
    · intro r g p hr hp hown j hj hd
      rcases hd with hd | e
      · exact h0.dd r g p hr hp hown j hj hd
      · have := hS.lt r p hp
        omega
    · intro k o hd
      rcases hd with hd | rfl
      · exact h0.dlt k o hd
      · exact .inr (by rw [objAt_new w x hn]; rfl)
    · intro w1 w2 hs hle ⟨h1, h2⟩
      exact ⟨hS.loc w1 w2 (fun k o hd => hs k o (.inl hd)) hle h1, by rw [(hs w.heap.size 0 (.inr rfl)).2]; exact h2⟩
  exact hk w.heap.size hS.chg.size hnim hnd N _ _ hN (putO_sound hfr (by simp [SV.den, hmk]) (hp _)) hS'
def opsS (P : Program) (ops : Array Oper) (Q : Exit → Act → World → Prop) (l : List Nat) (a : Act) (w : World) : Prop :=
  ∀ (b : Frame) (k : List Item) (cs : List Frame), ∃ e a' w', Q e a' w' ∧ Arrives P (lone (b.at a (.inRegion ops l :: k)) cs w) b k cs e a' w'
theorem opsS.of {P : Program} {ops : Array Oper} {Q : Exit → Act → World → Prop} {l : List Nat} {a : Act} {w : World} (h : wpOps P ops Q l a w) : opsS P ops Q l a w := wp_ops l a w h
theorem opsS.region {P : Program} {ops : Array Oper} {Q : Exit → Act → World → Prop} {id : Nat} {a : Act} {w : World} (h : opsS P ops Q (List.range ops.size) a w) : (Code.region id ops false).wp P Q a w :=
  fun b k cs => let ⟨e, a', w', q, r⟩ := h b k cs; ⟨e, a', w', q, .of_steps (.one step_region) r⟩
theorem wanted_none {o : Oper} {ops : Array Oper} {t : Array Value} (hg : o.guard = none) : Region.wanted o (yielded ops t) = true := by simp [Region.wanted, hg]
theorem opsS.value {P : Program} {ops : Array Oper} {Q : Exit → Act → World → Prop} {i : Nat} {rest : List Nat} {o : Oper} {a : Act} {w w' : World} {v : Value} (ho : ops[i]? = some o) (hg : o.guard = none) (hr : (execOp a.eval o).run P w = .ok (.value v) w')
    (h : opsS P ops Q rest (a.put o.dst v) w') : opsS P ops Q (i :: rest) a w := by
  intro b k cs
  obtain ⟨e, a', w'', hq, harr⟩ := h b k cs
  refine ⟨e, a', w'', hq, .of_steps (.one (step_lone_go ?_)) harr⟩
  have hs := stepG_op (P := P) (b := b) (k := k) (cs := cs) (w := w) (rest := rest) ho (wanted_none (t := a.tmps) hg)
  have hfin : (b.at a (.inRegion ops (i :: rest) :: k)).finish v = b.at (a.put o.dst v) (.inRegion ops rest :: k) := by
    rw [Frame.finish_at, ho]; rfl
  rw [hs, ← hfin]
  simp [stepG.apply, hr]
theorem comm_up {P : Program} {ops : Array Oper} {i : Nat} {rest : List Nat} {o : Oper} {a : Act} {w w' : World} {cases : Array CommCase} {shape : CommShape} (ho : ops[i]? = some o) (hg : o.guard = none) (hr : (execOp a.eval o).run P w = .ok (.comm cases true shape) w') (b : Frame) (k : List Item) (cs : List Frame) :
    ∃ es, stepG P true (Conc.G (b.at a (.inRegion ops (i :: rest) :: k)) cs) w = .comm (Conc.G (b.at a (.inRegion ops (i :: rest) :: k)) cs) cases true shape w' es := by
  have hs := stepG_op (P := P) (b := b) (k := k) (cs := cs) (w := w) (rest := rest) ho (wanted_none (t := a.tmps) hg)
  have hs' : stepG P true (Conc.G (b.at a (.inRegion ops (i :: rest) :: k)) cs) w = stepG.apply P true (b.at a (.inRegion ops (i :: rest) :: k)) cs none (execOp a.eval o) w := hs
  rw [hs']
  simp only [stepG.apply, Sem.runT_eq, hr]
  exact ⟨_, rfl⟩
theorem opsS.send {P : Program} {ops : Array Oper} {Q : Exit → Act → World → Prop} {i : Nat} {rest : List Nat} {o : Oper} {a : Act} {w : World} {c cap sn rc : Nat} {buf : Array Value} {v z : Value} {tm : Bool} (ho : ops[i]? = some o) (hg : o.guard = none)
    (hr : (execOp a.eval o).run P w = .ok (.comm #[Conc.scase c v z] true .send) w) (hc : w.heap[c]? = some (.chan cap buf false sn rc tm)) (hroom : buf.size < cap)
    (h : opsS P ops Q rest (a.put o.dst undef) (putOb w c (.chan cap (buf.push v) false (sn + 1) rc tm))) : opsS P ops Q (i :: rest) a w := by
  intro b k cs
  obtain ⟨e, a', w'', hq, harr⟩ := h b k cs
  obtain ⟨es, hst⟩ := comm_up (rest := rest) ho hg hr b k cs
  refine ⟨e, a', w'', hq, .of_steps (.one ?_) harr⟩
  have := Conc.step_lone_send_room hst hc hroom
  have hfin : (b.at a (.inRegion ops (i :: rest) :: k)).finish undef = b.at (a.put o.dst undef) (.inRegion ops rest :: k) := by
    rw [Frame.finish_at, ho]; rfl
  rw [hfin] at this
  exact this
theorem opsS.recv {P : Program} {ops : Array Oper} {Q : Exit → Act → World → Prop} {i : Nat} {rest : List Nat} {o : Oper} {a : Act} {w : World} {c cap sn rc : Nat} {buf : Array Value} {z : Value} {tm cl : Bool} (ho : ops[i]? = some o) (hg : o.guard = none)
    (hr : (execOp a.eval o).run P w = .ok (.comm #[Conc.rcase c z] true (.recv true)) w) (hc : w.heap[c]? = some (.chan cap buf cl sn rc tm)) (hsome : 0 < buf.size)
    (h : opsS P ops Q rest (a.put o.dst (.tuple #[buf.getD 0 undef, .bool true])) (putOb w c (.chan cap (buf.extract 1 buf.size) cl sn (rc + 1) tm))) : opsS P ops Q (i :: rest) a w := by
  intro b k cs
  obtain ⟨e, a', w'', hq, harr⟩ := h b k cs
  obtain ⟨es, hst⟩ := comm_up (rest := rest) ho hg hr b k cs
  refine ⟨e, a', w'', hq, .of_steps (.one ?_) harr⟩
  have := Conc.step_lone_recv_buf true hst hc hsome
  have hfin : ∀ v, (b.at a (.inRegion ops (i :: rest) :: k)).finish v = b.at (a.put o.dst v) (.inRegion ops rest :: k) := fun v => by
    rw [Frame.finish_at, ho]; rfl
  rw [hfin] at this
  exact this
theorem opsS.shut {P : Program} {ops : Array Oper} {Q : Exit → Act → World → Prop} {i : Nat} {rest : List Nat} {o : Oper} {a : Act} {w : World} {c cap sn rc : Nat} {z : Value} {tm : Bool} (ho : ops[i]? = some o) (hg : o.guard = none)
    (hr : (execOp a.eval o).run P w = .ok (.comm #[Conc.rcase c z] true (.recv true)) w) (hc : w.heap[c]? = some (.chan cap #[] true sn rc tm))
    (h : opsS P ops Q rest (a.put o.dst (.tuple #[z, .bool false])) w) : opsS P ops Q (i :: rest) a w := by
  intro b k cs
  obtain ⟨e, a', w'', hq, harr⟩ := h b k cs
  obtain ⟨es, hst⟩ := comm_up (rest := rest) ho hg hr b k cs
  refine ⟨e, a', w'', hq, .of_steps (.one ?_) harr⟩
  have := Conc.step_lone_recv_shut true hst hc
  have hfin : ∀ v, (b.at a (.inRegion ops (i :: rest) :: k)).finish v = b.at (a.put o.dst v) (.inRegion ops rest :: k) := fun v => by
    rw [Frame.finish_at, ho]; rfl
  rw [hfin] at this
  exact this
def XS (E : Ctx) (all : Array Oper) (rest : List Nat) (k : List It) (s : St) : Prop :=
  ∀ (N : Nums) (a : Act) (w : World), E.N0.le N → FrOk E.n N s.fr a → Sat E.toEnv N s.rg w → opsS E.P all (sem E.P E.B k E.Q) rest a w
theorem X.reg {id : Nat} (h : XS E all (List.range all.size) k s) : X E (.code (.region id all false) :: k) s := by
  intro N a w hN hf hS
  show _ → Code.wp _ _ _ _ _
  intro _
  exact (h N a w hN hf hS).region
theorem XS.toX (h : X E (.ops all rest :: k) s) : XS E all rest k s := fun N a w hN hf hS => opsS.of (h N a w hN hf hS)
theorem nth_get {o : Oper} (ho : nth all.toList i = some o) : all[i]? = some o := by rw [nth_eq] at ho; simpa using ho
theorem XS.val (ho : nth all.toList i = some o) (hg : o.guard = none) (r : SV) (hp : putO E.n s.fr o.dst (.val r) = some f)
    (h : ∀ (N : Nums) (a : Act) (w : World), E.N0.le N → FrOk E.n N s.fr a → Sat E.toEnv N s.rg w → ∃ x, r.den N = some x ∧ (execOp a.eval o).run E.P w = .ok (.value x) w)
    (hk : XS E all rest k ⟨f, s.rg⟩) : XS E all (i :: rest) k s := fun N a w hN hf hS => by
  obtain ⟨x, h1, h2⟩ := h N a w hN hf hS
  exact .value (nth_get ho) hg h2 (hk N _ _ hN (putO_sound hf h1 hp) hS)
theorem XS.move {y : Operand} {v : SV} (ho : nth all.toList i = some o) (hg : o.guard = none) (hop : o.op = .move y) (hv : ev s.fr y = some v) (hp : putO E.n s.fr o.dst (.val v) = some f) (hk : XS E all rest k ⟨f, s.rg⟩) : XS E all (i :: rest) k s :=
  XS.val ho hg v hp (fun N a w hN hf hS => ⟨_, ev_sound hf hv, by simp [execOp, hop]⟩) hk
theorem XS.load (hT : TabOk E.P T) {t : TypeId} {x : Operand} {y v : SV} (ho : nth all.toList i = some o) (hg : o.guard = none) (hop : o.op = .load t x) (hx : ev s.fr x = some y) (hv : loadV T s.rg t y = some v) (hp : putO E.n s.fr o.dst (.val v) = some f) (hk : XS E all rest k ⟨f, s.rg⟩) : XS E all (i :: rest) k s :=
  XS.val ho hg v hp (fun N a w hN hf hS => by
    obtain ⟨u, h1, h2⟩ := loadV_sound hT.ok hS.vis (ev_sound hf hx) hv
    exact ⟨u, h1, by simp [execOp, hop, h2, Result.andThen]⟩) hk
theorem XS.sendR (R' : World → Prop) (c : Nat) {ch y : Operand} {v : SV} (ho : nth all.toList i = some o) (hg : o.guard = none) (hop : o.op = .send ch y) (hch : ev s.fr ch = some (.raw (.chan (some c)))) (hv : ev s.fr y = some v)
    (hD : ∃ o, E.D c o) (hO : ∀ k o, E.D k o → E.W.heap.size ≤ k ∨ E.O k o) (him : ∀ k o, E.D k o → E.im k o = none) (hrg : ∀ g ∈ s.rg, g.own = true ∨ g.cells = []) (hl : Loc E.D R')
    (hR : ∀ N w x, E.N0.le N → E.R w → v.den N = some x → ∃ cap buf sn rc, w.heap[c]? = some (.chan cap buf false sn rc false) ∧ buf.size < cap ∧ R' (putOb w c (.chan cap (buf.push x) false (sn + 1) rc false)))
    (hp : putO E.n s.fr o.dst (.val (.tup [])) = some f) (hk : XS (E.withR R') all rest k ⟨f, s.rg⟩) : XS E all (i :: rest) k s := fun N a w hN hf hS => by
  have h1 := ev_sound hf hch
  simp only [SV.den, one?, if_true, Option.some.injEq] at h1
  obtain ⟨cap, buf, sn, rc, h2, h3, h4⟩ := hR N w _ hN hS.res (ev_sound hf hv)
  have hob := objAt_of h2 trivial
  refine .send (nth_get ho) hg (z := .tuple #[]) (v := a.eval y) ?_ h2 h3 ?_
  · simp [execOp, hop, ← h1, Conc.scase]
  · exact hk N _ _ hN (putO_sound (x := undef) hf rfl hp) (hS.putR (by rw [hob]; rfl) trivial hD hO him hrg hl h4)
theorem XS.recvR (R' : World → Prop) (c : Nat) {ct : TypeId} {ch : Operand} {dir : ChanDir} {et : TypeId} {z : Value} (r : SV) (ho : nth all.toList i = some o) (hg : o.guard = none) (hop : o.op = .recv ct ch true) (hu : E.P.underlying ct = some (.chan dir et)) (hz : ∀ w, (zeroValue et).run E.P w = .ok z w)
    (hch : ev s.fr ch = some (.raw (.chan (some c)))) (hD : ∃ o, E.D c o) (hO : ∀ k o, E.D k o → E.W.heap.size ≤ k ∨ E.O k o) (him : ∀ k o, E.D k o → E.im k o = none) (hrg : ∀ g ∈ s.rg, g.own = true ∨ g.cells = []) (hl : Loc E.D R')
    (hR : ∀ N w, E.N0.le N → E.R w → ∃ cap buf cl sn rc, w.heap[c]? = some (.chan cap buf cl sn rc false) ∧ 0 < buf.size ∧ r.den N = some (buf.getD 0 undef) ∧ R' (putOb w c (.chan cap (buf.extract 1 buf.size) cl sn (rc + 1) false)))
    (hp : putO E.n s.fr o.dst (.val (.tup [r, .bool (.lit true)])) = some f) (hk : XS (E.withR R') all rest k ⟨f, s.rg⟩) : XS E all (i :: rest) k s := fun N a w hN hf hS => by
  have h1 := ev_sound hf hch
  simp only [SV.den, one?, if_true, Option.some.injEq] at h1
  obtain ⟨cap, buf, cl, sn, rc, h2, h3, h4, h5⟩ := hR N w hN hS.res
  have hob := objAt_of h2 trivial
  refine .recv (nth_get ho) hg (z := z) ?_ h2 h3 ?_
  · simp [execOp, hop, ← h1, Conc.rcase, run_underlying hu, hz, Result.andThen]
  · exact hk N _ _ hN (putO_sound hf (by simp [SV.den, SV.denL, h4, SB.den]) hp) (hS.putR (by rw [hob]; rfl) trivial hD hO him hrg hl h5)
theorem XS.shutR (c : Nat) {ct : TypeId} {ch : Operand} {dir : ChanDir} {et : TypeId} {z : Value} (r : SV) (ho : nth all.toList i = some o) (hg : o.guard = none) (hop : o.op = .recv ct ch true) (hu : E.P.underlying ct = some (.chan dir et)) (hz : ∀ w, (zeroValue et).run E.P w = .ok z w) (hr : ∀ N, r.den N = some z)
    (hch : ev s.fr ch = some (.raw (.chan (some c)))) (hR : ∀ w, E.R w → ∃ cap sn rc, w.heap[c]? = some (.chan cap #[] true sn rc false))
    (hp : putO E.n s.fr o.dst (.val (.tup [r, .bool (.lit false)])) = some f) (hk : XS E all rest k ⟨f, s.rg⟩) : XS E all (i :: rest) k s := fun N a w hN hf hS => by
  have h1 := ev_sound hf hch
  simp only [SV.den, one?, if_true, Option.some.injEq] at h1
  obtain ⟨cap, sn, rc, h2⟩ := hR w hS.res
  refine .shut (nth_get ho) hg (z := z) ?_ h2 ?_
  · simp [execOp, hop, ← h1, Conc.rcase, run_underlying hu, hz, Result.andThen]
  · exact hk N _ _ hN (putO_sound hf (by simp [SV.den, SV.denL, hr, SB.den]) hp) hS
end
def IntKeys (es : List MapEntry) : Prop := ∀ x ∈ es, ∃ i, x.key = .int .i64 i
open Classical in
noncomputable def mget : List MapEntry → Int → Option Value
  | [], _ => none
  | e :: es, i => if e.key = .int .i64 i then some e.val else mget es i
open Classical in
noncomputable def mpos : List MapEntry → Int → Option Nat
  | [], _ => none
  | e :: es, i => if e.key = .int .i64 i then some 0 else (mpos es i).map (· + 1)
theorem find_int : ∀ (l : List MapEntry) (i : Int) (n : Nat), IntKeys l → Instr.findNow (.int .i64) (.int .i64 i) l n = some (match mpos l i with
    | some j => (l[j]?).map fun e => (n + j, e.val)
    | none => none)
  | [], _, _, _ => rfl
  | e :: es, i, n, h => by
    obtain ⟨z, hz⟩ := h e (.head _)
    have ih := find_int es i (n + 1) (fun x hx => h x (.tail _ hx))
    simp only [Instr.findNow, hz, Instr.sameNow, if_true]
    by_cases e1 : i = z
    · subst e1
      have : mpos (e :: es) i = some 0 := by simp only [mpos]; rw [if_pos hz]
      rw [this]; simp
    · have hb : (i == z) = false := by simpa using e1
      have e2 : ¬ (e.key = .int .i64 i) := fun h => by rw [hz] at h; simp at h; exact e1 h.symm
      have : mpos (e :: es) i = (mpos es i).map (· + 1) := by simp only [mpos]; rw [if_neg e2]
      rw [this]
      simp only [hb, ih]
      cases mpos es i with
      | none => rfl
      | some j => simp [Nat.add_assoc, Nat.add_comm 1 j]
theorem mpos_get : ∀ (l : List MapEntry) (i : Int) (j : Nat), mpos l i = some j → ∃ e, l[j]? = some e ∧ e.key = .int .i64 i ∧ mget l i = some e.val
  | [], _, _, h => by simp [mpos] at h
  | e :: es, i, j, h => by
    simp only [mpos] at h
    by_cases e1 : e.key = .int .i64 i
    · rw [if_pos e1] at h; cases h
      exact ⟨e, rfl, e1, by simp [mget, e1]⟩
    · rw [if_neg e1] at h
      cases hp : mpos es i with
      | none => rw [hp] at h; cases h
      | some j' =>
        rw [hp] at h; cases h
        obtain ⟨e', h1, h2, h3⟩ := mpos_get es i j' hp
        exact ⟨e', by simpa using h1, h2, by simp [mget, e1, h3]⟩
theorem mpos_none : ∀ (l : List MapEntry) (i : Int), mpos l i = none → mget l i = none
  | [], _, _ => rfl
  | e :: es, i, h => by
    simp only [mpos] at h
    by_cases e1 : e.key = .int .i64 i
    · rw [if_pos e1] at h; cases h
    · rw [if_neg e1] at h
      simp only [mget, if_neg e1]
      exact mpos_none es i (by cases hp : mpos es i with
        | none => rfl
        | some j => rw [hp] at h; cases h)
theorem mget_push : ∀ (l : List MapEntry) (i : Int) (v : Value) (bn : Nat), mget l i = none → ∀ j, mget (l ++ [⟨.int .i64 i, v, bn⟩]) j = if j = i then some v else mget l j
  | [], i, v, bn, _, j => by
    simp only [List.nil_append, mget]
    by_cases e : j = i
    · subst e; simp
    · rw [if_neg e, if_neg (fun h => by simp at h; exact e h.symm)]
  | e :: es, i, v, bn, h, j => by
    simp only [mget] at h
    by_cases e1 : e.key = .int .i64 i
    · rw [if_pos e1] at h; cases h
    · rw [if_neg e1] at h
      have ih := mget_push es i v bn h j
      simp only [List.cons_append, mget, ih]
      by_cases e2 : e.key = .int .i64 j
      · have : j ≠ i := fun e3 => by subst e3; exact e1 e2
        simp [e2, this]
      · simp [e2]
theorem mget_modify : ∀ (l : List MapEntry) (i : Int) (v : Value) (p : Nat), mpos l i = some p → ∀ j, mget (l.modify p fun e => { e with key := .int .i64 i, val := v }) j = if j = i then some v else mget l j
  | [], _, _, _, h, _ => by simp [mpos] at h
  | e :: es, i, v, p, h, j => by
    simp only [mpos] at h
    by_cases e1 : e.key = .int .i64 i
    · rw [if_pos e1] at h; cases h
      simp only [List.modify_zero_cons, mget]
      by_cases e2 : j = i
      · subst e2; simp
      · have e3 : ¬ (e.key = .int .i64 j) := by rw [e1]; simp; exact fun h => e2 h.symm
        have e4 : ¬ ((Value.int .i64 i) = .int .i64 j) := by simp; exact fun h => e2 h.symm
        rw [if_neg e2, if_neg e3, if_neg e4]
    · rw [if_neg e1] at h
      cases hp : mpos es i with
      | none => rw [hp] at h; cases h
      | some p' =>
        rw [hp] at h; cases h
        have ih := mget_modify es i v p' hp j
        simp only [List.modify_succ_cons, mget, ih]
        by_cases e2 : e.key = .int .i64 j
        · have : j ≠ i := fun e3 => by subst e3; exact e1 e2
          simp [e2, this]
        · simp [e2]
def MapAt (m : Nat) (g : Int → Option Value) (w : World) : Prop := ∃ es clock, w.heap[m]? = some (.map es clock) ∧ IntKeys es.toList ∧ ∀ i, mget es.toList i = g i
theorem MapAt.ob {m : Nat} {g : Int → Option Value} {w : World} (h : MapAt m g w) : (objAt w m).isSome = true := by
  obtain ⟨es, clock, h1, _⟩ := h
  rw [objAt_of h1 trivial]; rfl
theorem MapAt.at {m : Nat} {g : Int → Option Value} {w w' : World} (h : MapAt m g w) (hs : objAt w' m = objAt w m) : MapAt m g w' := by
  obtain ⟨es, clock, h1, h2⟩ := h
  rw [objAt_of h1 trivial] at hs
  exact ⟨es, clock, heap_objAt hs, h2⟩
theorem run_lookup_int {P : Program} {m : Nat} {g : Int → Option Value} {w : World} (h : MapAt m g w) {mt kt et : TypeId} {z : Value} (hu : P.underlying mt = some (.map kt et)) (hk : P.underlying kt = some (.int .i64)) (hz : ∀ w, (zeroValue et).run P w = .ok z w) (i : Int) :
    (Instr.lookup mt (.map (some m)) (.int .i64 i) true).run P w = .ok (.tuple #[(g i).getD z, .bool (g i).isSome]) w := by
  obtain ⟨es, clock, h1, h2, h3⟩ := h
  have hf := find_int es.toList i 0 h2
  have hc : ∀ e n, (Instr.checkKey e (n + 1) kt (.int .i64 i)).run P w = .ok () w := fun e n => run_checkKey hk (by simp [IsKey]) e n
  rw [← h3 i]
  cases hp : mpos es.toList i with
  | none =>
    rw [hp] at hf
    simp [Instr.lookup, run_underlying hu, Go.MapKept.run_getObj_map h1, hc, Go.MapKept.run_findKey hk hf, hz, Result.andThen, mpos_none _ _ hp]
  | some j =>
    rw [hp] at hf
    obtain ⟨e, k1, _, k3⟩ := mpos_get _ _ _ hp
    simp only [k1, Option.map_some] at hf
    simp [Instr.lookup, run_underlying hu, Go.MapKept.run_getObj_map h1, hc, Go.MapKept.run_findKey hk hf, Result.andThen, k3]
theorem run_update_int {P : Program} {m : Nat} {g : Int → Option Value} {w : World} (h : MapAt m g w) {mt kt et : TypeId} (hu : P.underlying mt = some (.map kt et)) (hk : P.underlying kt = some (.int .i64)) (i : Int) (v : Value) :
    ∃ x, (Instr.mapUpdate mt (.map (some m)) (.int .i64 i) v).run P w = .ok () (putOb w m x) ∧ notCells x ∧ MapAt m (fun j => if j = i then some v else g j) (putOb w m x) := by
  have hm := objAt_lt h.ob
  obtain ⟨es, clock, h1, h2, h3⟩ := h
  have hf := find_int es.toList i 0 h2
  have hc : ∀ e n, (Instr.checkKey e (n + 1) kt (.int .i64 i)).run P w = .ok () w := fun e n => run_checkKey hk (by simp [IsKey]) e n
  have hkey : IsKey (.int .i64) (.int .i64 i) := by simp [IsKey]
  cases hp : mpos es.toList i with
  | none =>
    rw [hp] at hf
    refine ⟨.map (es.push { key := .int .i64 i, val := v, born := clock }) (clock + 1), ?_, trivial, _, _, heap_put_same hm, ?_, fun j => ?_⟩
    · simp [Instr.mapUpdate, run_underlying hu, Go.MapKept.run_getObj_map h1, hc, Go.MapKept.run_findKey hk hf, Go.MapKept.run_setObj_map _ h1, Result.andThen, putOb]
    · intro x hx
      simp only [Array.toList_push, List.mem_append, List.mem_singleton] at hx
      rcases hx with hx | rfl
      · exact h2 x hx
      · exact ⟨i, rfl⟩
    · rw [Array.toList_push, mget_push _ _ _ _ (mpos_none _ _ hp), h3]
  | some p =>
    rw [hp] at hf
    obtain ⟨e, k1, k2, _⟩ := mpos_get _ _ _ hp
    simp only [k1, Option.map_some] at hf
    have k1' : es[p]? = some e := by simpa using k1
    refine ⟨.map (es.modify p fun e => { e with key := .int .i64 i, val := v }) clock, ?_, trivial, _, _, heap_put_same hm, ?_, fun j => ?_⟩
    · simp [Instr.mapUpdate, run_underlying hu, Go.MapKept.run_getObj_map h1, hc, Go.MapKept.run_findKey hk hf, k1', k2, run_keyThatStays hkey, Go.MapKept.run_setObj_map _ h1, Result.andThen, putOb]
    · intro x hx
      rw [Array.toList_modify] at hx
      obtain ⟨n, hn⟩ := List.mem_iff_getElem?.1 hx
      rw [List.getElem?_modify] at hn
      cases hl : es.toList[n]? with
      | none => rw [hl] at hn; simp at hn
      | some y =>
        rw [hl] at hn
        by_cases e3 : p = n
        · simp [e3] at hn; exact ⟨i, by rw [← hn]⟩
        · simp [e3] at hn; exact h2 x (by rw [← hn]; exact List.mem_of_getElem? hl)
    · rw [Array.toList_modify, mget_modify _ _ _ _ hp, h3]
section
variable {E : Ctx} {T : Tab} {all : Array Oper} {i : Nat} {rest : List Nat} {k : List It} {s : St} {o : Oper} {f : Fr}
theorem X.lookupI {mt kt et : TypeId} {x y : Operand} {m : Nat} {j : SI} {z : Value} {v : SV} {b : Bool} (g : Int → Option Value) (ho : nth all.toList i = some o) (hg : o.guard = none) (hop : o.op = .lookup mt x y true) (hu : E.P.underlying mt = some (.map kt et)) (hkt : E.P.underlying kt = some (.int .i64)) (hz : ∀ w, (zeroValue et).run E.P w = .ok z w)
    (hx : ev s.fr x = some (.raw (.map (some m)))) (hy : ev s.fr y = some (.int .i64 j)) (hm : ∀ N w, E.N0.le N → Sat E.toEnv N s.rg w → MapAt m g w) (hv : ∀ N, E.N0.le N → v.den N = some ((g j.den).getD z)) (hb : b = (g j.den).isSome)
    (hp : putO E.n s.fr o.dst (.val (.tup [v, .bool (.lit b)])) = some f) (hk : X E (.ops all rest :: k) ⟨f, s.rg⟩) : X E (.ops all (i :: rest) :: k) s := by
  refine X.value ho hg _ hp (fun N a w hN hfr hS => ?_) hk
  have h1 := ev_sound hfr hx
  have h2 := ev_sound hfr hy
  simp only [SV.den, one?, if_true, Option.some.injEq] at h1 h2
  refine ⟨.tuple #[(g j.den).getD z, .bool (g j.den).isSome], by simp [SV.den, SV.denL, hv N hN, SB.den, hb], ?_⟩
  simp [execOp, hop, ← h1, ← h2, run_lookup_int (hm N w hN hS) hu hkt hz, Result.andThen]
theorem X.mapPutR (R' : World → Prop) {mt kt et : TypeId} {x y u : Operand} {m : Nat} {j : SI} {v : SV} (g : Int → Option Value) (ho : nth all.toList i = some o) (hg : o.guard = none) (hop : o.op = .mapUpdate mt x y u) (hu : E.P.underlying mt = some (.map kt et)) (hkt : E.P.underlying kt = some (.int .i64))
    (hx : ev s.fr x = some (.raw (.map (some m)))) (hy : ev s.fr y = some (.int .i64 j)) (hv : ev s.fr u = some v) (hD : ∃ o, E.D m o) (hO : ∀ k o, E.D k o → E.W.heap.size ≤ k ∨ E.O k o) (him : ∀ k o, E.D k o → E.im k o = none) (hrg : ∀ g ∈ s.rg, g.own = true ∨ g.cells = []) (hl : Loc E.D R')
    (hm : ∀ w, E.R w → MapAt m g w) (hR : ∀ N w c ob, E.N0.le N → Sat E.toEnv N s.rg w → v.den N = some c → notCells ob → MapAt m (fun q => if q = j.den then some c else g q) (putOb w m ob) → R' (putOb w m ob))
    (hp : putO E.n s.fr o.dst (.val (.tup [])) = some f) (hk : X (E.withR R') (.ops all rest :: k) ⟨f, s.rg⟩) : X E (.ops all (i :: rest) :: k) s := by
  refine X.putR0 R' m ho hg hD hO him hrg hl (fun N a w hN hfr hS => ?_) hp hk
  have h1 := ev_sound hfr hx
  have h2 := ev_sound hfr hy
  have h3 := ev_sound hfr hv
  simp only [SV.den, one?, if_true, Option.some.injEq] at h1 h2
  obtain ⟨ob, k1, k2, k3⟩ := run_update_int (P := E.P) (hm w hS.res) hu hkt j.den (a.eval u)
  refine ⟨ob, ?_, (hm w hS.res).ob, k2, hR N w _ ob hN hS h3 k2 k3⟩
  simp [execOp, hop, ← h1, ← h2, k1, Result.andThen]
end
end Go.Eng
namespace Go.Eng
theorem Sat.addFresh {E : Env} {N : Nums} {rg : List Rg} {w : World} (h : Sat E N rg w) {b o x s0 : Nat} {cs : List SV} (hN : ∀ (r : Nat) (p : Num), N[r]? = some p → p.b < s0) (hs0 : s0 ≤ b) (hE : E.W.heap.size ≤ s0) (hb : b < w.heap.size) (hx : cs.length ≤ x)
    (hcs : ∀ (j : Nat) (c : SV), cs[j]? = some c → ∃ v, c.den N = some v ∧ w.cell? ⟨b, o + j, none⟩ = some v) (hro : ∀ j, j < x → (w.cell? ⟨b, o + j, none⟩).isSome = true ∧ w.frozen? ⟨b, o + j, none⟩ = false)
    (him : ∀ i, E.im b i = none) (hD : ∀ i, ¬ E.D b i) : Sat E (N ++ [⟨b, o, x⟩]) (rg ++ [⟨true, cs, none⟩]) w := by
  have hle : N.le (N ++ [⟨b, o, x⟩]) := Nums.le_append _ _
  refine ⟨by simp [h.len], ?_, ?_, ?_, ?_, ?_, ?_, ?_, h.imm, ?_, ?_, h.dlt, h.loc, h.res, h.chg, ?_⟩
  · intro i q hq
    rcases Nat.lt_or_ge i N.length with hi | hi
    · rw [List.getElem?_append_left hi] at hq; exact h.lt i q hq
    · rw [List.getElem?_append_right hi] at hq
      have hz : i - N.length = 0 := by
        have := (List.getElem?_eq_some_iff.1 hq).1
        simp at this; omega
      rw [hz] at hq; simp at hq; subst hq; exact hb
  · intro i g q hg hq j d hj
    rcases get_snoc h.len hg hq with ⟨a, b⟩ | ⟨_, rfl, rfl⟩
    · obtain ⟨v, h1, h2⟩ := h.cell i g q a b j d hj
      exact ⟨v, SV.den_mono hle d h1, h2⟩
    · obtain ⟨v, h1, h2⟩ := hcs j d hj
      exact ⟨v, SV.den_mono hle d h1, h2⟩
  · intro i g q hg hq ho
    rcases get_snoc h.len hg hq with ⟨a, b⟩ | ⟨_, rfl, rfl⟩
    · exact h.ext i g q a b ho
    · exact hx
  · intro i g q hg hq ho
    rcases get_snoc h.len hg hq with ⟨a, b⟩ | ⟨_, rfl, rfl⟩
    · exact h.room i g q a b ho
    · exact hro
  · intro i i' g g' q q' hg hq hg' hq' ho hne j hj hb'
    rcases get_snoc h.len hg hq with ⟨a1, a2⟩ | ⟨a0, rfl, rfl⟩ <;> rcases get_snoc h.len hg' hq' with ⟨b1, b2⟩ | ⟨b0, rfl, rfl⟩
    · exact h.disj i i' g g' q q' a1 a2 b1 b2 ho hne j hj hb'
    · have := hN i q a2; simp at hb'; omega
    · have := hN i' q' b2; simp at hb'; omega
    · omega
  · intro i g q ob hg hq ho
    rcases get_snoc h.len hg hq with ⟨a, b⟩ | ⟨_, rfl, rfl⟩
    · obtain ⟨⟨o', k1, k2⟩, k3⟩ := h.obj i g q ob a b ho
      exact ⟨⟨o', Ob.den_mono hle ob k1, k2⟩, k3⟩
    · simp at ho
  · intro i i' g g' q q' hg hq hg' hq' ho ho' hne
    rcases get_snoc h.len hg hq with ⟨a1, a2⟩ | ⟨a0, rfl, rfl⟩
    · rcases get_snoc h.len hg' hq' with ⟨b1, b2⟩ | ⟨b0, rfl, rfl⟩
      · exact h.odisj i i' g g' q q' a1 a2 b1 b2 ho ho' hne
      · simp at ho'
    · simp at ho
  · intro i g q hg hq ho
    rcases get_snoc h.len hg hq with ⟨a, b⟩ | ⟨_, rfl, rfl⟩
    · exact h.imd i g q a b ho
    · exact fun j _ => him _
  · intro i g q hg hq ho
    rcases get_snoc h.len hg hq with ⟨a, b⟩ | ⟨_, rfl, rfl⟩
    · exact h.dd i g q a b ho
    · exact fun j _ => hD _
  · intro i g q hg hq ho
    rcases get_snoc h.len hg hq with ⟨a, b⟩ | ⟨_, rfl, rfl⟩
    · exact h.foot i g q a b ho
    · exact .inl (Nat.le_trans hE hs0)
def FreshRet (cs : List SV) (n sz : Nat) (w : World) (e : Ending) (w' : World) : Prop :=
  ∃ b o x : Nat, e = .returned (.slice (some ⟨b, o, none⟩) n (x / sz)) ∧ w.heap.size ≤ b ∧ cs.length ≤ x ∧ 0 < x ∧ (∀ (j : Nat) (c : SV), cs[j]? = some c → ∃ v, c.den [] = some v ∧ w'.cell? ⟨b, o + j, none⟩ = some v) ∧
    (∀ j, j < x → (w'.cell? ⟨b, o + j, none⟩).isSome = true ∧ w'.frozen? ⟨b, o + j, none⟩ = false) ∧ Chg (fun _ _ => False) w w'
theorem FreshRet.sat {E : Env} {N : Nums} {rg : List Rg} {w w' : World} {cs : List SV} {n sz : Nat} {e : Ending} (hf : FreshRet cs n sz w e w') (h : Sat E N rg w) :
    ∃ (p : Num) (v : Value), e = .returned v ∧ (SV.osl rg.length 0 n sz none).den (N ++ [p]) = some v ∧ w.heap.size ≤ p.b ∧ Sat E (N ++ [p]) (rg ++ [⟨true, cs, none⟩]) w' := by
  obtain ⟨b, o, x, he, h1, h2, h3, h4, h5, hc⟩ := hf
  have hget : (N ++ [⟨b, o, x⟩])[rg.length]? = some ⟨b, o, x⟩ := by rw [← h.len]; simp
  refine ⟨⟨b, o, x⟩, _, he, by simp only [SV.den, hget, Num.cap]; simp, h1, ?_⟩
  have h0 := h.after0 hc
  refine h0.addFresh (s0 := w.heap.size) (fun r p hp => h.lt r p hp) h1 h.chg.size ?_ h2 (fun j c hj => ?_) h5 (fun i => ?_) (fun i hd => ?_)
  · obtain ⟨v, hv⟩ := Option.isSome_iff_exists.1 (h5 0 h3).1
    exact World.block_lt_of_cell? _ _ hv
  · obtain ⟨v, k1, k2⟩ := h4 j c hj
    exact ⟨v, SV.den_mono (N := []) (N' := N) (fun r p h => by simp at h) c k1, k2⟩
  · cases hi : E.im b i with
    | none => rfl
    | some v => have := World.block_lt_of_cell? _ _ (h.imm _ _ _ hi); simp at this; omega
  · have := (h.dlt _ _ hd).lt
    omega
section
variable {E : Ctx} {T : Tab} {all : Array Oper} {i : Nat} {rest : List Nat} {k : List It} {s : St} {o : Oper} {f : Fr}
theorem Goes.fresh {N : Nums} {k : List It} {s : St} {d : Option Nat} {w w' : World} {cs : List SV} {n sz : Nat} {e : Ending} (hN : E.N0.le N) (h : Sat E.toEnv N s.rg w) (hf : FreshRet cs n sz w e w') {f' : Fr} (hp : putO E.n s.fr d (.val (.osl s.rg.length 0 n sz none)) = some f')
    (hx : X E k ⟨f', s.rg ++ [⟨true, cs, none⟩]⟩) : ∃ v, e = .returned v ∧ Goes E N k s.fr d v w' := by
  obtain ⟨p, v, h1, h2, _, h3⟩ := hf.sat h
  exact ⟨v, h1, E, N ++ [p], _, _, f', rfl, rfl, rfl, rfl, Nums.le_append _ _, hN.trans (Nums.le_append _ _), h3, h2, hp, hx⟩
theorem X.makeN (hT : TabOk E.P T) {t e : TypeId} {x y : Operand} {n c : SI} {kd kd' : IntKind} {m : Nat} {ti te : TI} (ho : nth all.toList i = some o) (hg : o.guard = none) (hop : o.op = .makeSlice t x y) (hx : ev s.fr x = some (.int kd n)) (hy : ev s.fr y = some (.int kd' c))
    (hn : n.den = (m : Nat)) (hc : c.den = (m : Nat)) (hti : lookT T t = some ti) (hk : ti.kind = .slice e) (hte : lookT T e = some te) (h1 : 0 < te.size) (h2 : te.zero.length = te.size) (h3 : m ≤ 1099511627776) (h4 : te.bytes * m ≤ 281474976710656)
    (hp : putO E.n s.fr o.dst (.val (.osl s.rg.length 0 m te.size (some m))) = some f) (hk' : X E (.ops all rest :: k) ⟨f, s.rg ++ [⟨true, Eng.rep m te.zero, none⟩]⟩) : X E (.ops all (i :: rest) :: k) s := by
  refine X.oper ho hg fun N a w hN hfr hS => ?_
  have e1 := ev_sound hfr hx
  have e2 := ev_sound hfr hy
  simp only [SV.den, hn, hc, Option.some.injEq] at e1 e2
  obtain ⟨N', v, w', k1, k2, k3, k4⟩ := makeSlice_sound (N := N) (rg := s.rg) (w := w) (E := E.toEnv) (n := (m : Int)) (c := (m : Int)) (k := kd) (k' := kd') hT.ok hS hti hk hte (by simp [h1, h2, h4]; omega)
  simp only [Int.toNat_natCast] at k2 k4
  unfold Oper.wp
  have hex : (execOp a.eval o).run E.P w = .ok (.value v) w' := by simp [execOp, hop, ← e1, ← e2, k3, Result.andThen]
  rw [hex]
  exact hk' N' _ w' (hN.trans k1) (putO_sound (hfr.mono k1) k2 hp) k4
end
def callFresh (j g : Nat) (cs : List SV) (m sz n : Nat) (all : Array Oper) (pr : St → List SV → Prop) : CallerP := fun i s => bif Nat.beq i j then
    match nth all.toList i with
    | none => none
    | some o => bif sure all s.fr o then
      match o.op with
      | .call c => match c.callee with
        | .value (.func g') => bif Nat.beq g' g then
            match evL s.fr c.args.toList with
            | some l => match putO n s.fr o.dst (.val (.osl s.rg.length 0 m sz none)) with
              | some f => some (⟨f, s.rg ++ [⟨true, cs, none⟩]⟩, [], pr s l)
              | none => none
            | none => none
          else none
        | _ => none
      | _ => none
    else none
  else none
theorem callFresh_ok {P : Program} {Rr : World → Prop} {im : Nat → Nat → Option Value} {j g : Nat} {cs : List SV} {m sz n : Nat} {all : Array Oper} {pr : St → List SV → Prop} (hb : ∀ args w, (callFunc g args).run P w = .ok (.enter g args) w)
    (hpr : ∀ s l, pr s l → ∀ (E : Env) (N : Nums) (w : World) (args : List Value), E.P = P → E.R = Rr → E.im = im → Sat E N s.rg w → SV.denL N l = some args → Calls P g args.toArray w (FreshRet cs m sz w)) : CallerPOk P n all Rr im (callFresh j g cs m sz n all pr) := by
  intro i s s' ws p hc hp
  unfold callFresh at hc
  have hb0 := bif_none hc
  clear hc
  obtain ⟨_, hc⟩ := hb0
  split at hc
  · cases hc
  · rename_i o ho
    rw [nth_eq] at ho
    have hb1 := bif_none hc
    clear hc
    obtain ⟨hsu, hc⟩ := hb1
    split at hc
    · rename_i c hop
      split at hc
      · rename_i g' hcal
        have hb2 := bif_none hc
        clear hc
        obtain ⟨hg, hc⟩ := hb2
        have hg := Nat.eq_of_beq_eq_true hg
        subst hg
        split at hc
        · rename_i l hl
          split at hc
          · rename_i f hput
            simp only [Option.some.injEq, Prod.mk.injEq] at hc
            obtain ⟨rfl, rfl, rfl⟩ := hc
            refine ⟨⟨fun r g hg _ => by rw [List.getElem?_append_left (List.getElem?_eq_some_iff.1 hg).1]; exact hg, by simp⟩, o, by simpa using ho, fun E N a w hP hn hR him hf hS => ⟨sure_sound hf hsu, fun K Q hK => ?_⟩⟩
            subst hP; subst hn
            have hargs := evL_sound hf _ hl
            have hexec : (execOp a.eval o).run E.P w = .ok (.enter g' (c.args.toList.map a.eval).toArray) w := by
              obtain ⟨callee, args, argTypes⟩ := c
              simp only at hcal
              try simp only at hl
              subst hcal
              simp only [execOp, hop, resolve, Act.eval, Deferred.ofValue, Sem.run_bind, Sem.run_pure, Result.andThen, invoke]
              rw [hb]
              congr 2
              apply Array.ext'
              simp
            unfold Oper.wp
            rw [hexec]
            show Calls _ _ _ _ _
            refine Calls.mono (hpr _ _ hp E N w _ rfl hR him hS hargs) fun e w' hfr => ?_
            obtain ⟨q, v, h1, h2, _, h3⟩ := hfr.sat hS
            subst h1
            exact hK (N ++ [q]) v w' (Nums.le_append _ _) (putO_sound (hf.mono (Nums.le_append _ _)) h2 hput) h3
          · cases hc
        · cases hc
      · cases hc
    · cases hc
theorem X.reval {E : Ctx} {k : List It} {s : St} (t : Nat) {v : SV} (v' : SV) (hl : look s.fr t = .val v) (hd : ∀ N, E.N0.le N → ∀ x, v.den N = some x → v'.den N = some x) (h : X E k ⟨(t, .val v') :: s.fr, s.rg⟩) : X E k s := by
  refine X.conv fun N a w hN hf hS => ?_
  refine ⟨E, ⟨(t, .val v') :: s.fr, s.rg⟩, rfl, rfl, rfl, rfl, ⟨N, hN, ⟨hf.size, hf.defers, fun t' => ?_⟩, hS⟩, h⟩
  simp only [look]
  cases e : Nat.beq t t' with
  | false => exact hf.ok t'
  | true =>
    have e := Nat.eq_of_beq_eq_true e
    subst e
    have hok := hf.ok t
    rw [hl] at hok
    obtain ⟨x, h1, h2⟩ := hok
    exact ⟨x, hd N hN x h1, h2⟩
end Go.Eng
namespace Go.Eng
theorem Goes.cells {E : Ctx} {N : Nums} {k : List It} {s : St} {d : Option Nat} {v : Value} {w w' : World} {r : Nat} {g : Rg} {p : Num} (hN : E.N0.le N) (h : Sat E.toEnv N s.rg w) (hg : s.rg[r]? = some g) (hp : N[r]? = some p) (ho : g.own = true)
    (hc : Chg (fun k o => k = p.b ∧ p.o ≤ o ∧ o < p.o + p.x) w w') (cs' : List SV) (hl : cs'.length ≤ p.x) (hcs : ∀ (j : Nat) (c : SV), cs'[j]? = some c → ∃ v, c.den N = some v ∧ w'.cell? ⟨p.b, p.o + j, none⟩ = some v)
    {rv : SV} (hr : rv.den N = some v) {f' : Fr} (hpo : putO E.n s.fr d (.val rv) = some f') (hx : X E k ⟨f', s.rg.set r { g with cells := cs' }⟩) : Goes E N k s.fr d v w' := by
  refine ⟨E, N, rv, _, f', rfl, rfl, rfl, rfl, Nums.le.refl N, hN, ?_, hr, hpo, hx⟩
  have hrl : r < s.rg.length := (List.getElem?_eq_some_iff.1 hg).1
  have hnd : ∀ k o, (k = p.b ∧ p.o ≤ o ∧ o < p.o + p.x) → ¬ E.D k o := fun k o ⟨e1, e2, e3⟩ hd => by
    subst e1
    have := h.dd r g p hg hp ho (o - p.o) (by omega)
    rw [show p.o + (o - p.o) = o by omega] at this
    exact this hd
  have keepD : ∀ k o, E.D k o → (w'.cell? ⟨k, o, none⟩ = w.cell? ⟨k, o, none⟩ ∧ w'.frozen? ⟨k, o, none⟩ = w.frozen? ⟨k, o, none⟩) ∧ objAt w' k = objAt w k := fun k o hd => by
    have hlt := (h.dlt k o hd).lt
    obtain ⟨x, hx⟩ : ∃ x, w.heap[k]? = some x := ⟨_, Array.getElem?_eq_getElem hlt⟩
    cases x with
    | cells c e f =>
      obtain ⟨c', h1, h2, h3⟩ := hc.cells k c e f hx
      have h4 := h3 o (fun e => hnd k o e hd)
      refine ⟨⟨by simp [World.cell?, hx, h1, h4], by simp [World.frozen?, hx, h1]⟩, by simp [objAt, hx, h1]⟩
    | _ =>
      have hne : ∀ o', ¬ (k = p.b ∧ p.o ≤ o' ∧ o' < p.o + p.x) := fun o' ⟨e1, e2, e3⟩ => by
        have := (h.room r g p hg hp ho (o' - p.o) (by omega)).1
        rw [← e1] at this
        simp [World.cell?, hx] at this
      have e := hc.same k hlt hne
      exact ⟨⟨by unfold World.cell?; simp only [e], by unfold World.frozen?; simp only [e]⟩, objAt_same e⟩
  refine h.after (m' := E.im) (D' := E.D) (R' := E.R) hc (fun k o _ ⟨e1, e2, e3⟩ => .inl ⟨r, g, p, hg, hp, ho, e1, e2, e3⟩) ⟨fun _ _ _ h => h, fun k o v hv => ?_, fun _ _ _ h => .inl h⟩
    (fun k o hd => ⟨.inl hd, (h.dlt k o hd).of (fun hs => by rw [(keepD k o hd).1.1]; exact hs) (keepD k o hd).2⟩) h.loc (h.loc w w' keepD hc.size h.res) (by simp) (fun q x x' pq hq1 hq2 hpq => ?_)
  · refine cell_of_chg hc (fun ⟨e1, e2, e3⟩ => ?_) (h.imm k o v hv)
    have := h.imd r g p hg hp ho (o - p.o) (by omega)
    rw [show p.o + (o - p.o) = o by omega, ← e1, hv] at this
    cases this
  · rcases get_set hrl hq2 with ⟨rfl, rfl⟩ | ⟨hi, hq2⟩
    · rw [hg] at hq1; cases hq1
      rw [hp] at hpq; cases hpq
      exact ⟨rfl, rfl, fun e => (by rw [ho] at e; cases e), fun _ => hl, .inr hcs⟩
    · rw [hq1] at hq2; cases hq2
      refine ⟨rfl, rfl, fun _ => rfl, fun e => h.ext q x pq hq1 hpq e, .inl ⟨rfl, fun j hj ⟨e1, e2, e3⟩ => ?_⟩⟩
      have hw : j < x.wid pq := by
        unfold Rg.wid
        cases hxo : x.own with
        | true => have := h.ext q x pq hq1 hpq hxo; simp; omega
        | false => simpa using hj
      rcases h.disj r q g x p pq hg hp hq1 hpq ho (fun e => hi e.symm) j hw e1 with h1 | h1 <;> omega
theorem X.namesP {E : Ctx} {k : List It} {s : St} (P : Nums → Prop) (hP : ∀ (N : Nums) (w : World), E.N0.le N → Sat E.toEnv N s.rg w → P N) (h : ∀ N : Nums, E.N0.le N → N.length = s.rg.length → P N → X { E with N0 := N } k s) : X E k s := by
  refine X.conv fun N a w hN hf hS => ?_
  exact ⟨{ E with N0 := N }, s, rfl, rfl, rfl, rfl, ⟨N, Nums.le.refl _, hf, hS.env rfl rfl rfl rfl rfl⟩, h N hN hS.len (hP N w hN hS)⟩
end Go.Eng
namespace Go.Eng
def wpOpsI (P : Program) (ops : Array Oper) (I : World → Prop) (Q : Exit → Act → World → Prop) : List Nat → Act → World → Prop
  | [], a, w => Q .normal a w
  | z :: zs, a, w => wpOp P ops Q z (fun a' w' => I w' ∧ wpOpsI P ops I Q zs a' w') a w
theorem tailI_sound {P : Program} {all : Array Oper} {Q : Exit → Act → World → Prop} {K : KW} {rg : List Rg} {Nf : Nums} {ks : List Nat} : ∀ (zs : List Nat) (L : Array Bool) (a : Act) (w : World), L.size = all.size → tailOk all zs L = true → (∀ r, memN ks r = true → memN (wrL K L) r = true) →
    wpOpsI P all (fun w' => Vis Nf (maskRg ks rg 0) w') Q zs a w → wpF P all Q (fun L => Vis Nf (maskRg (wrL K L) rg 0)) zs.length L a w
  | [], L, a, w, _, h, _, hk => wpF.done (by unfold tailOk at h; cases hr : Region.ready .any all L with | nil => rfl | cons _ _ => rw [hr] at h; cases h) hk
  | z :: zs, L, a, w, hn, h, hm, hk => by
    simp only [tailOk, Bool.and_eq_true] at h
    have hr := only_spec h.1
    have hrm : z ∈ Region.ready .any all L := by rw [hr]; simp
    have hlt : z < L.size := by
      obtain ⟨_, o, ho, _⟩ := mem_ready.1 hrm
      rw [hn]; exact (Array.getElem?_eq_some_iff.1 ho).1
    have hm' : ∀ r, memN ks r = true → memN (wrL K (L.setIfInBounds z true)) r = true := fun r hr => wrL_grow hlt (hm r hr)
    refine wpF.all hr (by simp) fun j hj => ?_
    simp only [List.mem_singleton] at hj; subst hj
    exact wpOp_mono (fun a' w' h' => ⟨h'.1.more hm', tailI_sound zs _ a' w' (by simpa using hn) h.2 hm' h'.2⟩) hk
theorem anyI_sound {E : Env} {T : Tab} (hT : TabOk E.P T) {all : Array Oper} (hsel : Region.noSelect all = true) {Q : Exit → Act → World → Prop} (hQ : PanicOk Q) {call : CallerP} (hc : CallerPOk E.P E.n all E.R E.im call) {oq : Orac} {N0 : Nums} (hoq : OracOk E.P E.n all N0 oq) {K : KW} {rg : List Rg} {fin : St → Prop} {Nf : Nums} (wf : World) (hV : Vis Nf rg wf) {z : Nat} {zs : List Nat} {ks : List Nat} (hK : ∀ r, memN ks r = true → memN (lookK K z) r = true) : ∀ (sch : Sch) (listed : Array Bool) {s : St} {N : Nums} {a : Act} {w : World},
    schPre all sch listed = true → tailOk all (z :: zs) (schEnd sch listed) = true → listed.size = all.size → anyO oq T E.n all K rg call fin sch s → Nf.le N → N0.le N → FrOk E.n N s.fr a → Sat E N s.rg w → Agree (wrL K listed) rg s.rg → rg.length ≤ s.rg.length →
    (∀ s' N' a' w', fin s' → N.le N' → FrOk E.n N' s'.fr a' → Sat E N' s'.rg w' → wpOpsI E.P all (fun w' => Vis Nf (maskRg ks rg 0) w') Q (z :: zs) a' w') → wpF E.P all Q (fun L => Vis Nf (maskRg (wrL K L) rg 0)) (sch.length + (zs.length + 1)) listed a w := by
  have emp : ∀ {l : List Nat}, l.isEmpty = true → l = [] := by intro l h; cases l <;> simp at h ⊢
  have see : ∀ (L : Array Bool) {N : Nums} {rg' : List Rg} {w : World}, Nf.le N → Agree (wrL K L) rg rg' → Sat E N rg' w → Vis Nf (maskRg (wrL K L) rg 0) w := fun L _ _ _ hN ha hS => vis_of_agree (hV.mask _) hN ha hS
  intro sch
  induction sch with
  | nil =>
    intro listed s N a w hs ht hn hg hN hN0 hf hS ha hl hk
    simp only [schEnd, tailOk, Bool.and_eq_true] at ht
    obtain ⟨hr, ht⟩ := ht
    have hr := only_spec hr
    have hrm : z ∈ Region.ready .any all listed := by rw [hr]; simp
    have hlt : z < listed.size := by
      obtain ⟨_, o, ho, _⟩ := mem_ready.1 hrm
      rw [hn]; exact (Array.getElem?_eq_some_iff.1 ho).1
    have hset : (listed.setIfInBounds z true).getD z false = true := by simp [hlt]
    have hall : ∀ r, memN ks r = true → memN (wrL K (listed.setIfInBounds z true)) r = true := fun r hr => by
      obtain ⟨p, h1, h2, h3⟩ := lookK_mem (hK r hr)
      exact memN_flat.2 ⟨p, h1, by rw [h2]; exact hset, h3⟩
    have hk' := hk s N a w hg (Nums.le.refl N) hf hS
    rw [List.length_nil, Nat.zero_add]
    refine wpF.all hr (by simp) fun j hj => ?_
    simp only [List.mem_singleton] at hj; subst hj
    exact wpOp_mono (fun a' w' h => ⟨h.1.more hall, tailI_sound zs _ a' w' (by simpa using hn) ht hall h.2⟩) hk'
  | cons p r ih =>
    obtain ⟨i, q⟩ := p
    intro listed s N a w hs ht hn hg hN hN0 hf hS ha hl hk
    have hS0 := see listed hN ha hS
    cases q with
    | some blk =>
      simp only [schPre, Bool.and_eq_true] at hs
      rw [List.length_cons, Nat.add_right_comm]
      simp only [schEnd] at ht
      obtain ⟨⟨⟨⟨hr, hfree⟩, hclosed⟩, hwithin⟩, hs⟩ := hs
      simp only [anyO] at hg
      obtain ⟨hqk, hg⟩ := hg
      have hqk := quietK_spec hqk
      have hrm : i ∈ Region.ready .any all listed := by simpa using hr
      have hi0 : listed.getD i false = false := by
        have h1 := (mem_ready.1 hrm).1
        rcases Nat.lt_or_ge i listed.size with h' | h'
        · simp [h'] at h1 ⊢; exact h1
        · rw [Array.getD_eq_getD_getElem?, Array.getElem?_eq_none h']; rfl
      have same : ∀ (L : Array Bool) (r : Nat), memN (wrL K (L.setIfInBounds i true)) r = true ↔ memN (wrL K L) r = true := fun L r => by
        simp only [wrL, memN_flat]
        constructor
        · rintro ⟨p, h1, h2, h3⟩
          exact ⟨p, h1, by rwa [getD_set_ne false (fun e => hqk p h1 e.symm)] at h2, h3⟩
        · rintro ⟨p, h1, h2, h3⟩
          exact ⟨p, h1, by rwa [getD_set_ne false (fun e => hqk p h1 e.symm)], h3⟩
      split at hg
      · rename_i f hq
        obtain ⟨_, o, ho, _⟩ := mem_ready.1 hrm
        obtain ⟨hp, hg⟩ := hg
        -- whoever may have come up ahead of it is of blk
        have wide : ∀ {L' : Array Bool} {w' : World}, Up all i listed L' → Vis Nf (maskRg (wrL K L') rg 0) w' → Vis Nf (maskRg (flatK (memB blk) K) rg 0) w' := fun hup hv =>
          hv.more fun r hr => by
            obtain ⟨p, h1, h2, h3⟩ := memN_flat.1 hr
            exact memN_flat.2 ⟨p, h1, (hup.within hclosed hn hi0 hwithin).2.2 _ h2, h3⟩
        obtain ⟨v, hv, hfr⟩ := hoq _ i _ _ _ _ _ _ _ ho hq hp hN0 hf ((wide .here hS0).mono hN)
        refine wpF.take ho hsel hfree hr (fun c a w h => hQ c a o.dst v w h) (fun L w => ⟨fun h => h.more fun r hr => (same L r).1 hr, fun h => h.more fun r hr => (same L r).2 hr⟩) ?_ hS0
          (ih _ hs ht (by simpa using hn) hg hN hN0 hfr hS (fun r g hg hm => ha r g hg (by
            cases hx : memN (wrL K listed) r with
            | true => rw [(same listed r).2 hx] at hm; cases hm
            | false => rfl)) hl hk)
        rcases hv with ⟨hw, hrun⟩ | ⟨hw, rfl⟩
        · exact .inl ⟨hw, fun w ⟨L', hup, hw⟩ => hrun w ((wide hup hw).mono hN)⟩
        · exact .inr ⟨hw, rfl⟩
      · exact hg.elim
    | none =>
      simp only [schPre, Bool.and_eq_true] at hs
      rw [List.length_cons, Nat.add_right_comm]
      simp only [schEnd] at ht
      obtain ⟨hr, hs⟩ := hs
      have hr := only_spec hr
      have hrm : i ∈ Region.ready .any all listed := by rw [hr]; simp
      have hlt : i < listed.size := by
        obtain ⟨_, o, ho, _⟩ := mem_ready.1 hrm
        rw [hn]; exact (Array.getElem?_eq_some_iff.1 ho).1
      have hset : (listed.setIfInBounds i true).getD i false = true := by simp [hlt]
      have grow : ∀ r, memN (wrL K listed) r = true → memN (wrL K (listed.setIfInBounds i true)) r = true := fun r h => by
        obtain ⟨p, h1, h2, h3⟩ := memN_flat.1 h
        refine memN_flat.2 ⟨p, h1, ?_, h3⟩
        by_cases e : i = p.1
        · rw [← e]; exact hset
        · rw [getD_set_ne false e]; exact h2
      have own : ∀ k, memN (lookK K i) k = true → memN (wrL K (listed.setIfInBounds i true)) k = true := fun k hk => by
        obtain ⟨p, h1, h2, h3⟩ := lookK_mem hk
        exact memN_flat.2 ⟨p, h1, by rw [h2]; exact hset, h3⟩
      have ha1 : Agree (wrL K (listed.setIfInBounds i true)) rg s.rg := ha.mono fun r hr => by
        cases hx : memN (wrL K listed) r with
        | true => rw [grow r hx] at hr; cases hr
        | false => rfl
      simp only [anyO] at hg
      split at hg
      · rename_i f hq
        obtain ⟨_, o, ho, _⟩ := mem_ready.1 hrm
        obtain ⟨hp, hg⟩ := hg
        obtain ⟨v, hv, hfr⟩ := hoq _ i _ _ _ _ _ _ _ ho hq hp hN0 hf hS.vis
        refine wpF.all hr (by simp) fun j hj => ?_
        simp only [List.mem_singleton] at hj; subst hj
        unfold wpOp
        simp only [ho]
        have hnext := ih _ hs ht (by simpa using hn) hg hN hN0 hfr hS ha1 hl hk
        rcases hv with ⟨hw, hrun⟩ | ⟨hw, rfl⟩
        · rw [hw, if_pos rfl]
          exact .inl (wp_of_yields (.inl (hrun w hS.vis)) ⟨see _ hN ha1 hS, hnext⟩)
        · rw [hw]
          exact ⟨see _ hN ha1 hS, hnext⟩
      · split at hg
        · rename_i s1 he
          obtain ⟨hm, hg2⟩ := hg
          have hoi : ∃ o, all[i]? = some o := by
            cases ho : all[i]? with
            | some o => exact ⟨o, rfl⟩
            | none => unfold opE at he; rw [nth_eq] at he; simp [ho] at he
          obtain ⟨o, ho⟩ := hoi
          obtain ⟨hw, N', x, w', h1, h2, h3, h4⟩ := opE_sound hT ho he hf hS
          obtain ⟨ha', hl'⟩ := stepE_agree ha1 hl (by cases hst : stR s.fr all i with | some k => rw [hst] at hm; exact own k hm | none => rfl) he
          refine wpF.all hr (by simp) fun j hj => ?_
          simp only [List.mem_singleton] at hj; subst hj
          unfold wpOp
          simp only [ho, hw, if_true]
          exact .inl (wp_of_yields h2 ⟨see _ (hN.trans h1) ha' h4, ih _ hs ht (by simpa using hn) hg2 (hN.trans h1) (hN0.trans h1) h3 h4 ha' hl' (fun s2 N2 a2 w2 hs2 hN2 => hk s2 N2 a2 w2 hs2 (h1.trans hN2))⟩)
        · split at hg
          · rename_i s1 ws p he
            obtain ⟨hp, hm, hg2⟩ := hg
            obtain ⟨h1, o, ho, h2⟩ := hc _ _ _ _ _ he hp
            obtain ⟨hw, h3⟩ := h2 E N a w rfl rfl rfl rfl hf hS
            refine wpF.all hr (by simp) fun j hj => ?_
            simp only [List.mem_singleton] at hj; subst hj
            unfold wpOp
            simp only [ho, hw, if_true]
            refine .inl (h3 _ _ fun N' x w' hN' hf' hS' => ?_)
            have ha' : Agree (wrL K (listed.setIfInBounds j true)) rg s1.rg := fun r g hg hr => h1.agree r g (ha1 r g hg hr) (allN_spec hm r (by
              cases hx : memN (lookK K j) r with
              | true => rw [own r hx] at hr; cases hr
              | false => rfl))
            exact ⟨see _ (hN.trans hN') ha' hS', ih _ hs ht (by simpa using hn) hg2 (hN.trans hN') (hN0.trans hN') hf' hS' ha' (Nat.le_trans hl h1.len) (fun s2 N2 a2 w2 hs2 hN2 => hk s2 N2 a2 w2 hs2 (hN'.trans hN2))⟩
          · exact hg.elim
def XI (rg0 : List Rg) (ks : List Nat) (all : Array Oper) (k : List It) : List Nat → Ctx → St → Prop
  | [], E, s => X E k s
  | z :: zs, E, s => ∀ (N : Nums) (a : Act) (w : World), E.N0.le N → FrOk E.n N s.fr a → Sat E.toEnv N s.rg w → wpOp E.P all (sem E.P E.B k E.Q) z (fun a' w' => ∃ (E' : Ctx) (N' : Nums) (s' : St), E'.P = E.P ∧ E'.n = E.n ∧ E'.Q = E.Q ∧ E'.B = E.B ∧ N.le N' ∧ E'.N0.le N' ∧ FrOk E'.n N' s'.fr a' ∧ Sat E'.toEnv N' s'.rg w' ∧ Agree ks rg0 s'.rg ∧ XI rg0 ks all k zs E' s') a w
theorem XI.ops {rg0 : List Rg} {ks : List Nat} {all : Array Oper} {k : List It} {Nf : Nums} {w0 : World} (h0 : Vis Nf (maskRg ks rg0 0) w0) : ∀ (zs : List Nat) (E : Ctx) (s : St), XI rg0 ks all k zs E s → ∀ (N : Nums) (a : Act) (w : World), Nf.le N → E.N0.le N → FrOk E.n N s.fr a → Sat E.toEnv N s.rg w →
    wpOpsI E.P all (fun w' => Vis Nf (maskRg ks rg0 0) w') (sem E.P E.B k E.Q) zs a w
  | [], E, s, h, N, a, w, _, hN, hf, hS => h N a w hN hf hS
  | z :: zs, E, s, h, N, a, w, hNf, hN, hf, hS => by
    refine wpOp_mono (fun a' w' ⟨E', N', s', e1, e2, e3, e4, hN', hN0, hf', hS', ha, hx⟩ => ⟨vis_of_agree h0 (hNf.trans hN') ha hS', ?_⟩) (h N a w hN hf hS)
    have := XI.ops h0 zs E' s' hx N' a' w' (hNf.trans hN') hN0 hf' hS'
    rw [e1, e3, e4] at this
    exact this
def drawnI (oq : Orac) (T : Tab) (n : Nat) (all : Array Oper) (call : CallerP) (ks : List Nat) (fin : St → Prop) (z : Nat) (sch : Sch) (s : St) : Prop :=
  anyO oq T n all ((z, ks) :: dryO oq T n all call sch s) s.rg call fin sch s
theorem drawnI_sound {E : Ctx} {T : Tab} (hT : TabOk E.P T) {id : Nat} {all : Array Oper} {call : CallerP} (hc : CallerPOk E.P E.n all E.R E.im call) {oq : Orac} {N0 : Nums} (hoq : OracOk E.P E.n all N0 oq) {z : Nat} {zs : List Nat} {ks : List Nat} {sch sch2 : Sch} (hok : anyOk all (sch ++ sch2) = true) (hz : tailOk all (z :: zs) (schEnd sch (Array.replicate all.size false)) = true) (hlz : sch2.length = zs.length + 1) {k : List It} {s : St} (hN00 : N0 = E.N0) (hQ : PanicOk (sem E.P E.B k E.Q))
    (hd : drawnI oq T E.n all call ks (fun s' => XI s.rg ks all k (z :: zs) E s') z sch s) {N : Nums} {a : Act} {w : World} (hN0 : N0.le N) (hf : FrOk E.n N s.fr a) (hS : Sat E.toEnv N s.rg w) : (Code.region id all true).wp E.P (sem E.P E.B k E.Q) a w := by
  have hS' : Sat E.toEnv N s.rg { w with drawn := w.drawn + 1 } := hS.drew
  simp only [anyOk, Bool.and_eq_true] at hok
  obtain ⟨⟨hn, hlen⟩, hsch⟩ := hok
  have hlen := Nat.eq_of_beq_eq_true hlen
  have := anyI_sound (E := E.toEnv) hT hn hQ hc hoq _ hS'.vis (z := z) (zs := zs) (ks := ks) (fun r hr => by simp only [lookK, Nat.beq_refl, cond_true]; exact hr) sch _ (schPre_of sch _ hsch) hz (by simp) hd (Nums.le.refl N) hN0 hf hS' (fun r g hg _ => hg) (Nat.le_refl _) (fun s' N' a' w' hx hN' hf' hS2 => XI.ops (hS'.vis.mask ks) _ E s' hx N' a' w' hN' (by rw [← hN00]; exact hN0.trans hN') hf' hS2)
  rw [List.length_append, hlz] at hlen
  rw [hlen] at this
  exact wp_region_any hT.mixed this.any
theorem X.drawnI {P : Program} {fn : Func} {R : Ending → World → Prop} {W : World} {O : Nat → Nat → Prop} {im : Nat → Nat → Option Value} {D : Nat → Nat → Prop} {Rr : World → Prop} {N : Nums} {B : SchT} {T : Tab} (hT : TabOk P T) {id : Nat} {ops : Array Oper} {k : List It} {s : St} (call : CallerP) (ora : Nat → Fr → Option (Fr × Prop)) (z : Nat) (zs : List Nat) (ks : List Nat) {sch1 : Sch} (j : Nat)
    (hl : lookS B id = some sch1) (hz : tailOk ops (z :: zs) (schEnd (sch1.take j) (Array.replicate ops.size false)) = true) (hj : (sch1.drop j).length = zs.length + 1) (hc : CallerPOk P fn.ntmps ops Rr im call) (ho : OracOk P fn.ntmps ops N (fun _ => ora)) (n : Nat) (hn : fn.ntmps = n) (h : Eng.drawnI (oracQ ora T n ops) T n ops call ks (fun s' => XI s.rg ks ops k (z :: zs) (mkE P fn R W O im D Rr N B) s') z (sch1.take j) s) : X (mkE P fn R W O im D Rr N B) (.code (.region id ops true) :: k) s := by
  subst hn
  intro N' a w hN hf hS
  show _ → Code.wp _ _ _ _ _
  intro hreg
  simp only [regsB, hl] at hreg
  rw [← List.take_append_drop j sch1] at hreg
  exact drawnI_sound (E := mkE P fn R W O im D Rr N B) hT hc (oracQ_ok hT ho) hreg hz hj rfl (PanicOk.sem (fun _ _ d _ _ h => by cases d <;> exact h) k) h hN hf hS
section
variable {E : Ctx} {T : Tab} {all : Array Oper} {zs : List Nat} {k : List It} {s : St} {o : Oper} {f : Fr} {rg0 : List Rg} {ks : List Nat}
def GoesI (rg0 : List Rg) (ks : List Nat) (all : Array Oper) (k : List It) (zs : List Nat) (E : Ctx) (N : Nums) (f : Fr) (d : Option Nat) (v : Value) (w' : World) : Prop :=
  ∃ (E' : Ctx) (N' : Nums) (r : SV) (rg' : List Rg) (f' : Fr), E'.P = E.P ∧ E'.n = E.n ∧ E'.Q = E.Q ∧ E'.B = E.B ∧ N.le N' ∧ E'.N0.le N' ∧ Sat E'.toEnv N' rg' w' ∧ r.den N' = some v ∧ putO E.n f d (.val r) = some f' ∧ Agree ks rg0 rg' ∧ XI rg0 ks all k zs E' ⟨f', rg'⟩
theorem XI.call {z : Nat} {g : FuncId} {xs : Array Operand} {ts : Array TypeId} {l : List SV} (ho : nth all.toList z = some o) (hg : o.guard = none)
    (hop : o.op = .call { callee := .value (.func g), args := xs, argTypes := ts }) (hl : evL s.fr xs.toList = some l) (hb : ∀ args w, (callFunc g args).run E.P w = .ok (.enter g args) w)
    (h : ∀ (N : Nums) (w : World) (args : List Value), E.N0.le N → Sat E.toEnv N s.rg w → SV.denL N l = some args →
      Calls E.P g args.toArray w fun e w' => ∃ v, e = .returned v ∧ GoesI rg0 ks all k zs E N s.fr o.dst v w') : XI rg0 ks all k (z :: zs) E s := by
  intro N a w hN hfr hS
  have ho' : all[z]? = some o := by rw [nth_eq] at ho; simpa using ho
  have hargs := evL_sound hfr _ hl
  have hc := h N w _ hN hS hargs
  have hrun : (execOp a.eval o).run E.P w = .ok (.enter g (xs.toList.map a.eval).toArray) w := by
    simp only [execOp, hop, resolve, Act.eval, Deferred.ofValue, Sem.run_bind, Sem.run_pure, Result.andThen, invoke]
    rw [hb]
    congr 2
    apply Array.ext'
    simp
  unfold wpOp
  simp only [ho', Region.wanted, hg, if_true]
  refine .inl ?_
  unfold Oper.wp
  rw [hrun]
  refine Calls.mono hc fun e w' ⟨v, he, E', N', r, rg', f', h1, h2, h3, hB, h4, h5, h6, h7, h8, h9, h10⟩ => ?_
  subst he
  exact ⟨E', N', ⟨f', rg'⟩, h1, h2, h3, hB, h4, h5, by rw [h2]; exact putO_sound (hfr.mono h4) h7 h8, h6, h9, h10⟩
theorem XI.step {z : Nat} (hT : TabOk E.P T) {f : Fr} (ho : opQ T E.n all s.rg z s.fr = some f) (ha : Agree ks rg0 s.rg) (h : XI rg0 ks all k zs E ⟨f, s.rg⟩) : XI rg0 ks all k (z :: zs) E s := by
  intro N a w hN hfr hS
  obtain ⟨o, ho'⟩ : ∃ o, all[z]? = some o := by
    cases hx : all[z]? with
    | some o => exact ⟨o, rfl⟩
    | none => unfold opQ at ho; rw [nth_eq] at ho; simp [hx] at ho
  obtain ⟨v, hv, hf'⟩ := opQ_sound hT ho' ho hfr hS.vis
  unfold wpOp
  simp only [ho']
  have hnext : ∃ (E' : Ctx) (N' : Nums) (s' : St), E'.P = E.P ∧ E'.n = E.n ∧ E'.Q = E.Q ∧ E'.B = E.B ∧ N.le N' ∧ E'.N0.le N' ∧ FrOk E'.n N' s'.fr (a.put o.dst v) ∧ Sat E'.toEnv N' s'.rg w ∧ Agree ks rg0 s'.rg ∧ XI rg0 ks all k zs E' s' :=
    ⟨E, N, ⟨f, s.rg⟩, rfl, rfl, rfl, rfl, Nums.le.refl N, hN, hf', hS, ha, h⟩
  rcases hv with ⟨hw, hrun⟩ | ⟨hw, rfl⟩
  · rw [hw, if_pos rfl]
    exact .inl (wp_of_yields (.inl (hrun w hS.vis)) hnext)
  · rw [hw]
    exact hnext
theorem XI.done (h : X E k s) : XI rg0 ks all k [] E s := h
theorem Sat.turn' {E : Env} {N : Nums} {rg : List Rg} {w w' : World} {D' : Nat → Nat → Prop} {R' : World → Prop} (h : Sat E N rg w) (hc : Chg E.D w w') (hO : ∀ k o, E.D k o → E.W.heap.size ≤ k ∨ E.O k o) (him : ∀ k o, E.D k o → E.im k o = none)
    (hrg : ∀ (r : Nat) (g : Rg) (p : Num), rg[r]? = some g → N[r]? = some p → g.own = true ∨ ∀ j, j < g.cells.length → ¬ E.D p.b (p.o + j)) (hD : ∀ k o, D' k o → (E.D k o ∨ w.heap.size ≤ k) ∧ There w' k o) (hl : Loc D' R') (hR : R' w') : Sat { E with D := D', R := R' } N rg w' := by
  refine h.after (rg' := rg) (m' := E.im) hc (fun k o _ hd => .inr ⟨hd, hO k o hd⟩) ⟨fun _ _ _ h => h, fun k o v hv => ?_, fun _ _ _ h => .inl h⟩ hD hl hR rfl (fun r g g' p hg hg' hp => ?_)
  · refine cell_of_chg hc (fun hd => ?_) (h.imm k o v hv)
    rw [him k o hd] at hv; cases hv
  · rw [hg] at hg'; cases hg'
    refine ⟨rfl, rfl, fun _ => rfl, fun ho => h.ext r g p hg hp ho, .inl ⟨rfl, fun j hj => ?_⟩⟩
    rcases hrg r g p hg hp with ho | ho
    · exact h.dd r g p hg hp ho j (Nat.lt_of_lt_of_le hj (h.ext r g p hg hp ho))
    · exact ho j hj
theorem GoesI.turn {N : Nums} {d : Option Nat} {v : Value} {w w' : World} (D' : Nat → Nat → Prop) (R' : World → Prop) (hN : E.N0.le N) (h : Sat E.toEnv N s.rg w) (hc : Chg E.D w w') (hO : ∀ k o, E.D k o → E.W.heap.size ≤ k ∨ E.O k o) (him : ∀ k o, E.D k o → E.im k o = none)
    (hrg : ∀ (r : Nat) (g : Rg) (p : Num), s.rg[r]? = some g → N[r]? = some p → g.own = true ∨ ∀ j, j < g.cells.length → ¬ E.D p.b (p.o + j)) (hD : ∀ k o, D' k o → (E.D k o ∨ w.heap.size ≤ k) ∧ There w' k o) (hl : Loc D' R') (hR : R' w') {r : SV} (hr : r.den N = some v) {f' : Fr} (hp : putO E.n s.fr d (.val r) = some f') (ha : Agree ks rg0 s.rg)
    (hx : XI rg0 ks all k zs (E.withDR D' R') ⟨f', s.rg⟩) : GoesI rg0 ks all k zs E N s.fr d v w' :=
  ⟨E.withDR D' R', N, r, s.rg, f', rfl, rfl, rfl, rfl, Nums.le.refl N, hN, h.turn' hc hO him hrg hD hl hR, hr, hp, ha, hx⟩
theorem Goes.turn' {k : List It} {N : Nums} {d : Option Nat} {v : Value} {w w' : World} (D' : Nat → Nat → Prop) (R' : World → Prop) (hN : E.N0.le N) (h : Sat E.toEnv N s.rg w) (hc : Chg E.D w w') (hO : ∀ k o, E.D k o → E.W.heap.size ≤ k ∨ E.O k o) (him : ∀ k o, E.D k o → E.im k o = none)
    (hrg : ∀ (r : Nat) (g : Rg) (p : Num), s.rg[r]? = some g → N[r]? = some p → g.own = true ∨ ∀ j, j < g.cells.length → ¬ E.D p.b (p.o + j)) (hD : ∀ k o, D' k o → (E.D k o ∨ w.heap.size ≤ k) ∧ There w' k o) (hl : Loc D' R') (hR : R' w') {r : SV} (hr : r.den N = some v) {f' : Fr} (hp : putO E.n s.fr d (.val r) = some f') (hx : X (E.withDR D' R') k ⟨f', s.rg⟩) : Goes E N k s.fr d v w' :=
  ⟨E.withDR D' R', N, r, s.rg, f', rfl, rfl, rfl, rfl, Nums.le.refl N, hN, h.turn' hc hO him hrg hD hl hR, hr, hp, hx⟩
end
end Go.Eng
namespace Go.Eng
structure ValS where
  (j d : Nat) (r : SV) (pre : Fr → Prop)
def valO (n : Nat) (ops : Array Oper) : List ValS → Nat → Fr → Option (Fr × Prop)
  | [], _, _ => none
  | q :: l, i, f => bif Nat.beq i q.j then
      match nth ops.toList q.j with
      | some o => bif sure ops f o then
          match putO n f (some q.d) (.val q.r) with
          | some f' => some (f', q.pre f)
          | none => none
        else none
      | none => none
    else valO n ops l i f
def ValS.ok (ops : Array Oper) (q : ValS) : Bool := match nth ops.toList q.j with
  | some o => (match o.dst with | some d => Nat.beq d q.d | none => false)
  | none => false
def ValS.good (P : Program) (n : Nat) (ops : Array Oper) (N0 : Nums) (q : ValS) : Prop := ∀ (f : Fr), q.pre f → ∀ (N : Nums) (a : Act) (o : Oper) (w : World), N0.le N → nth ops.toList q.j = some o → FrOk n N f a → ∃ v, q.r.den N = some v ∧ ∀ w', (execOp a.eval o).run P w' = .ok (.value v) w'
theorem valO_ok {P : Program} {n : Nat} {ops : Array Oper} {N0 : Nums} : ∀ (l : List ValS), l.all (ValS.ok ops) = true → (∀ q ∈ l, q.good P n ops N0) → OracOk P n ops N0 (fun _ => valO n ops l)
  | [], _, _ => fun _ _ _ _ _ _ _ _ _ _ h => by cases h
  | q :: l, hl, hr => by
    intro rg i f f' pr N a w0 o ho hf hpr hN hfr hv
    simp only [List.all_cons, Bool.and_eq_true] at hl
    simp only [valO] at hf
    cases hi : Nat.beq i q.j with
    | false =>
      rw [hi] at hf
      exact valO_ok l hl.2 (fun q hq => hr q (by simp [hq])) rg i f f' pr N a w0 o ho hf hpr hN hfr hv
    | true =>
      rw [hi] at hf
      have hi := Nat.eq_of_beq_eq_true hi
      subst hi
      have hno : nth ops.toList q.j = some o := by rw [nth_eq]; simpa using ho
      simp only [cond_true, hno] at hf
      obtain ⟨hsu, hf⟩ := bif_none hf
      split at hf
      · rename_i f1 hput
        simp only [Option.some.injEq, Prod.mk.injEq] at hf
        obtain ⟨rfl, rfl⟩ := hf
        have hok := hl.1
        unfold ValS.ok at hok
        rw [hno] at hok
        have hd : o.dst = some q.d := by
          simp only at hok
          split at hok
          · rename_i d h; rw [h, Nat.eq_of_beq_eq_true hok]
          · cases hok
        obtain ⟨v, h1, h2⟩ := hr q (by simp) f hpr N a o w0 hN hno hfr
        exact ⟨v, .inl ⟨sure_sound hfr hsu, fun w _ => h2 w⟩, by rw [hd]; exact putO_sound hfr h1 hput⟩
      · cases hf
theorem good_from {P : Program} {n : Nat} {ops : Array Oper} {N0 : Nums} {j d t e sz x lo : Nat} {sx r : SV} {zl : Nat} (hop : ∀ o, nth ops.toList j = some o → o.op = .slice t (.tmp x) (some (.tmp lo)) none none) (hu : P.underlying t = some (.slice e)) (hq : ∀ w, (sizeOf e).run P w = .ok sz w)
    (hden : ∀ N, N0.le N → ∀ v, sx.den N = some v → ∃ b y m c, v = .slice (some ⟨b, y, none⟩) m c ∧ zl ≤ m ∧ m ≤ c ∧ zl < c ∧ r.den N = some (.slice (some ⟨b, y + zl * sz, none⟩) (m - zl) (c - zl))) :
    ValS.good P n ops N0 ⟨j, d, r, fun f => ev f (.tmp x) = some sx ∧ ∃ kd e, ev f (.tmp lo) = some (.int kd e) ∧ e.den = (zl : Int)⟩ := by
  rintro f ⟨hx, kl, el, hil, hel⟩ N a o w hN ho hfr
  have h1 := ev_sound hfr hx
  have h2 := ev_sound hfr hil
  simp only [SV.den, Option.some.injEq] at h2
  obtain ⟨b, y, m, c, hv, hzm, hmc, hzc, hr⟩ := hden N hN _ h1
  refine ⟨_, hr, fun w' => ?_⟩
  have hb := run_sliceBounds (P := P) (w := w') (ρ' := a.eval) (b := true) (len := m) (cap := c) (lo := some (.tmp lo)) (hi := none) (mx := none) (l := some zl) (h := none) (m := none) (.inr ⟨kl, zl, by simp [← h2, hel], rfl⟩) (.inl ⟨rfl, rfl⟩) (.inl ⟨rfl, rfl⟩)
    (by simpa using hzm) (by simpa using hmc) (by simp) (by simp)
  simp only [Option.map_none, Option.map_some, Option.getD_none, Option.getD_some] at hb
  have hne : ¬ c - zl = 0 := by omega
  simp [execOp, hop o ho, hv, Instr.sliceAt, run_underlying hu, Result.andThen, Instr.slice, hb, hq, addr_add]
  try exact fun h => absurd h (by omega)
theorem putAt_at {α : Type} : ∀ (l : List α) (c : Nat) (s : α) (j : Nat), c < l.length → (putAt l c s)[j]? = if j = c then some s else l[j]?
  | [], _, _, _, h => by simp at h
  | x :: l, 0, s, j, _ => by cases j <;> simp [putAt]
  | x :: l, c + 1, s, j, h => by
    cases j with
    | zero => simp [putAt]
    | succ j => simp [putAt, putAt_at l c s j (by simpa using h)]
theorem setRow_at (l : List SV) (c : Nat) (r : List SV) (j : Nat) (h : c + r.length ≤ l.length) : (setRow l c r)[j]? = if c ≤ j ∧ j < c + r.length then r[j - c]? else l[j]? := by
  induction r generalizing l c with
  | nil => simp [setRow]; omega
  | cons s r ih =>
    simp only [List.length_cons] at h
    rw [setRow, ih _ _ (by rw [putAt_length _ _ _ (by omega)]; omega), putAt_at _ _ _ _ (by omega)]
    simp only [List.length_cons]
    by_cases h1 : c + 1 ≤ j ∧ j < c + 1 + r.length
    · rw [if_pos h1, if_pos (by omega), show j - c = j - (c + 1) + 1 by omega, List.getElem?_cons_succ]
    · rw [if_neg h1]
      by_cases h2 : j = c
      · subst h2; rw [if_pos rfl, if_pos (by omega)]; simp
      · rw [if_neg h2, if_neg (by omega)]
theorem opE_copy {T : Tab} {n : Nat} {all : Array Oper} {i : Nat} {s : St} {o : Oper} {x y : Operand} {td tx e : Nat} {ti te : TI} {sx sy r : SV} {rg' : List Rg} {f : Fr} (ho : nth all.toList i = some o) (hg : sure all s.fr o = true)
    (hop : o.op = .call { callee := .builtin .copy, args := #[x, y], argTypes := #[td, tx] }) (hx : ev s.fr x = some sx) (hy : ev s.fr y = some sy) (hti : lookT T td = some ti) (hk : ti.kind = .slice e) (hte : lookT T e = some te)
    (hc : copyV s.rg te sx sy = some (r, rg')) (hp : putO n s.fr o.dst (.val r) = some f) : OpEq T n all i s ⟨f, rg'⟩ := by
  refine ⟨?_⟩
  unfold opE
  simp only [ho, hg, cond_true, hop, stepE, hx, hy, hti, hk, hte, hc, hp]
section
variable {E : Ctx} {T : Tab} {all : Array Oper} {z : Nat} {zs : List Nat} {k : List It} {s : St} {o : Oper} {f : Fr} {rg0 : List Rg} {ks : List Nat}
theorem XI.value (ho : nth all.toList z = some o) (hg : o.guard = none) (r : SV) (hp : putO E.n s.fr o.dst (.val r) = some f)
    (h : ∀ (N : Nums) (a : Act) (w : World), E.N0.le N → FrOk E.n N s.fr a → Sat E.toEnv N s.rg w → ∃ x, r.den N = some x ∧ (execOp a.eval o).run E.P w = .ok (.value x) w) (ha : Agree ks rg0 s.rg)
    (hk : XI rg0 ks all k zs E ⟨f, s.rg⟩) : XI rg0 ks all k (z :: zs) E s := by
  intro N a w hN hfr hS
  have ho' : all[z]? = some o := by rw [nth_eq] at ho; simpa using ho
  obtain ⟨x, h1, h2⟩ := h N a w hN hfr hS
  unfold wpOp
  simp only [ho', Region.wanted, hg, if_true]
  refine .inl ?_
  unfold Oper.wp
  rw [h2]
  exact ⟨E, N, ⟨f, s.rg⟩, rfl, rfl, rfl, rfl, Nums.le.refl N, hN, putO_sound hfr h1 hp, hS, ha, hk⟩
theorem XI.opEq (hT : TabOk E.P T) {s1 : St} (h : OpEq T E.n all z s s1) (ha : Agree ks rg0 s1.rg) (hk : XI rg0 ks all k zs E s1) : XI rg0 ks all k (z :: zs) E s := by
  intro N a w hN hfr hS
  have hoi : ∃ o, all[z]? = some o := by
    cases ho : all[z]? with
    | some o => exact ⟨o, rfl⟩
    | none => have := h.eq; unfold opE at this; rw [nth_eq] at this; simp [ho] at this
  obtain ⟨o, ho⟩ := hoi
  obtain ⟨hw, N', x, w', h1, h2, h3, h4⟩ := opE_sound hT ho h.eq hfr hS
  unfold wpOp
  simp only [ho, hw, if_true]
  exact .inl (wp_of_yields h2 ⟨E, N', s1, rfl, rfl, rfl, rfl, h1, hN.trans h1, h3, h4, ha, hk⟩)
theorem GoesI.fresh {N : Nums} {d : Option Nat} {w w' : World} {cs : List SV} {n sz : Nat} {e : Ending} (hN : E.N0.le N) (h : Sat E.toEnv N s.rg w) (hf : FreshRet cs n sz w e w') {f' : Fr} (hp : putO E.n s.fr d (.val (.osl s.rg.length 0 n sz none)) = some f') (ha : Agree ks rg0 (s.rg ++ [⟨true, cs, none⟩]))
    (hx : XI rg0 ks all k zs E ⟨f', s.rg ++ [⟨true, cs, none⟩]⟩) : ∃ v, e = .returned v ∧ GoesI rg0 ks all k zs E N s.fr d v w' := by
  obtain ⟨p, v, h1, h2, _, h3⟩ := hf.sat h
  exact ⟨v, h1, E, N ++ [p], _, _, f', rfl, rfl, rfl, rfl, Nums.le_append _ _, hN.trans (Nums.le_append _ _), h3, h2, hp, ha, hx⟩
end
structure ValR where
  (j d : Nat) (r : SV) (pre : List Rg → Fr → Prop)
def ValR.ok (ops : Array Oper) (q : ValR) : Bool := match nth ops.toList q.j with
  | some o => (match o.dst with | some d => Nat.beq d q.d | none => false)
  | none => false
def ValR.good (P : Program) (n : Nat) (ops : Array Oper) (N0 : Nums) (q : ValR) : Prop := ∀ (rg : List Rg) (f : Fr), q.pre rg f → ∀ (N : Nums) (a : Act) (o : Oper) (w : World), N0.le N → nth ops.toList q.j = some o → FrOk n N f a → Vis N rg w → ∃ v, q.r.den N = some v ∧ ∀ w', Vis N rg w' → (execOp a.eval o).run P w' = .ok (.value v) w'
theorem Sat.tail {E : Env} {p0 : Num} {N : Nums} {g0 : Rg} {rg : List Rg} {w : World} (h : Sat E (p0 :: N) (g0 :: rg) w) (hc : ∀ g ∈ rg, ∀ c ∈ g.cells, ∀ v, c.den (p0 :: N) = some v → c.den N = some v) (hob : ∀ g ∈ rg, g.ob = none) : Sat E N rg w := by
  have gs : ∀ {r : Nat} {g : Rg}, rg[r]? = some g → (g0 :: rg)[r + 1]? = some g := fun h => by simpa using h
  have ns : ∀ {r : Nat} {p : Num}, N[r]? = some p → (p0 :: N)[r + 1]? = some p := fun h => by simpa using h
  refine ⟨by have := h.len; simpa using this, fun r p hp => h.lt (r + 1) p (ns hp), fun r g p hg hp j c hj => ?_, fun r g p hg hp => h.ext (r + 1) g p (gs hg) (ns hp), fun r g p hg hp => h.room (r + 1) g p (gs hg) (ns hp),
    fun r r' g g' p p' hg hp hg' hp' ho hne => h.disj (r + 1) (r' + 1) g g' p p' (gs hg) (ns hp) (gs hg') (ns hp') ho (by omega), fun r g p ob hg hp ho => ?_, fun r r' g g' p p' hg hp hg' hp' ho _ _ => ?_, h.imm, fun r g p hg hp => h.imd (r + 1) g p (gs hg) (ns hp), fun r g p hg hp => h.dd (r + 1) g p (gs hg) (ns hp), h.dlt, h.loc, h.res, h.chg, fun r g p hg hp => h.foot (r + 1) g p (gs hg) (ns hp)⟩
  · obtain ⟨v, h1, h2⟩ := h.cell (r + 1) g p (gs hg) (ns hp) j c hj
    exact ⟨v, hc g (List.mem_of_getElem? hg) c (List.mem_of_getElem? hj) v h1, h2⟩
  · rw [hob g (List.mem_of_getElem? hg)] at ho; cases ho
  · rw [hob g (List.mem_of_getElem? hg)] at ho; cases ho
def Sh (N N' : Nums) : Fr → Fr → Prop
  | [], [] => True
  | (t, .val v) :: f, (t', .val v') :: f' => t = t' ∧ (∀ x, v.den N = some x → v'.den N' = some x) ∧ Sh N N' f f'
  | _, _ => False
theorem Sh.look {N N' : Nums} : ∀ {f f' : Fr}, Sh N N' f f' → ∀ t, look f t = look [] t ∧ look f' t = look [] t ∨ ∃ v v', look f t = .val v ∧ look f' t = .val v' ∧ ∀ x, v.den N = some x → v'.den N' = some x
  | [], [], _, t => .inl ⟨rfl, rfl⟩
  | (t0, .val v) :: f, (t1, .val v') :: f', h, t => by
    obtain ⟨rfl, h1, h2⟩ := h
    simp only [Eng.look]
    cases Nat.beq t0 t with
    | true => exact .inr ⟨v, v', rfl, rfl, h1⟩
    | false => exact Sh.look h2 t
  | [], _ :: _, h, _ => by simp [Sh] at h
  | _ :: _, [], h, _ => by simp [Sh] at h
  | (_, .dead) :: _, _ :: _, h, _ => by simp [Sh] at h
  | (_, .opt _ _ _) :: _, _ :: _, h, _ => by simp [Sh] at h
  | (_, .val _) :: _, (_, .dead) :: _, h, _ => by simp [Sh] at h
  | (_, .val _) :: _, (_, .opt _ _ _) :: _, h, _ => by simp [Sh] at h
theorem FrOk.sh {n : Nat} {N N' : Nums} {f f' : Fr} {a : Act} (h : FrOk n N f a) (hs : Sh N N' f f') : FrOk n N' f' a := by
  refine ⟨h.size, h.defers, fun t => ?_⟩
  have hok := h.ok t
  rcases hs.look t with ⟨h1, h2⟩ | ⟨v, v', h1, h2, h3⟩
  · rw [h2]; rw [h1] at hok
    exact hok
  · rw [h2]; rw [h1] at hok
    obtain ⟨x, k1, k2⟩ := hok
    exact ⟨x, h3 x k1, k2⟩
theorem X.shift {E : Ctx} {k : List It} (h0 : E.N0 = []) {f : Fr} (f' : Fr) {g0 : Rg} {rg : List Rg} (hs : ∀ p0 N, Sh (p0 :: N) N f f') (hc : ∀ g ∈ rg, ∀ c ∈ g.cells, ∀ (p0 : Num) (N : Nums) (v : Value), c.den (p0 :: N) = some v → c.den N = some v) (hob : ∀ g ∈ rg, g.ob = none) (h : X E k ⟨f', rg⟩) : X E k ⟨f, g0 :: rg⟩ := by
  refine X.conv fun N a w hN hf hS => ?_
  cases N with
  | nil => have := hS.len; simp at this
  | cons p0 N => exact ⟨E, ⟨f', rg⟩, rfl, rfl, rfl, rfl, ⟨N, by rw [h0]; exact fun r p h => by simp at h, hf.sh (hs p0 N), hS.tail (fun g hg c hc' v => hc g hg c hc' p0 N v) hob⟩, h⟩
end Go.Eng

namespace Go.Proofs.Ytkjhpaeminegoaa
open Go.Eng
def BytesAt (b y n : Nat) (g : Nat → Int) (W : World) : Prop := ∀ j, j < n → W.cell? ⟨b, y + j, none⟩ = some (.int .u8 (g j))
def bytesL (g : Nat → Int) (n : Nat) : List SV := (List.range n).map fun j => .int .u8 (.v (g j))
theorem bytesL_get (g : Nat → Int) (n j : Nat) (c : SV) (h : (bytesL g n)[j]? = some c) : j < n ∧ c = .int .u8 (.v (g j)) := by
  unfold bytesL at h
  rw [List.getElem?_map] at h
  obtain ⟨q, h1, h2⟩ := Option.map_eq_some_iff.1 h
  obtain ⟨h3, h4⟩ := List.getElem?_eq_some_iff.1 h1
  simp at h3 h4
  subst h4
  exact ⟨h3, h2.symm⟩
theorem bytesL_at {g : Nat → Int} {n j : Nat} (h : j < n) : (bytesL g n)[j]? = some (.int .u8 (.v (g j))) := by
  unfold bytesL
  rw [List.getElem?_map, List.getElem?_range h]; rfl
theorem bytesL_len (g : Nat → Int) (n : Nat) : (bytesL g n).length = n := by simp [bytesL]
theorem bytesL_one (g : Nat → Int) (n : Nat) : (bytesL g n).all SV.one = true := by
  rw [List.all_eq_true]
  intro c hc
  obtain ⟨j, hj⟩ := List.mem_iff_getElem?.1 hc
  rw [(bytesL_get g n j c hj).2]; rfl
theorem BytesAt.cells {b y n : Nat} {g : Nat → Int} {w : World} (h : BytesAt b y n g w) (N : Nums) (j : Nat) (c : SV) (hj : (bytesL g n)[j]? = some c) : ∃ v, c.den N = some v ∧ w.cell? ⟨b, y + j, none⟩ = some v := by
  obtain ⟨h1, rfl⟩ := bytesL_get g n j c hj
  exact ⟨_, rfl, h j h1⟩
set_option maxHeartbeats 40000000 in
set_option maxRecDepth 100000 in
set_option cbv.maxSteps 100000000 in
theorem cloneB_ok (b y n cp : Nat) (g : Nat → Int) (w : World) (h0 : n ≠ 0) (hn : n ≤ 1000) (hE : BytesAt b y n g w) :
    Calls Try.prog 39 #[.slice (some ⟨b, y, none⟩) n cp] w (FreshRet (bytesL g n) n 1 w) := by
  obtain ⟨cs, hcs⟩ : ∃ cs, cs = bytesL g n := ⟨_, rfl⟩
  rw [← hcs]
  have hlen : cs.length = n := by rw [hcs]; exact bytesL_len g n
  refine X.begin (rg := [⟨false, cs, none⟩]) (N := [⟨b, y, cs.length⟩]) (ss := [.osl 0 0 n 1 (some cp)]) Try.func39 rfl B39_ok rfl rfl
    (Sat.std1 false (World.block_lt_of_cell? _ _ (hE 0 (by omega))) (by rw [hcs]; exact hE.cells _) (fun h => by cases h)) ?_
  refine X.go T39_ok 16 _ rfl Try.results39 ?_
  conv => arg 2; cbv
  apply X.opEq (T := T39) T39_ok
  · exact opE_append (te := ti5) (new := cs) (m := n) rfl rfl rfl rfl rfl rfl rfl rfl (appSrc_row (g := ⟨false, cs, none⟩) rfl rfl rfl (by show cs.length = n * 1; omega))
      (appV_new (te := ti5) rfl h0 (appOk_ok (by decide) rfl (by show cs.length = n * 1; omega) (by rw [hcs]; exact bytesL_one g n) (by show (2 * (0 + n) + 256) * 1 ≤ _; omega) (by omega))) rfl
  refine X.go T39_ok 400 _ rfl Try.results39 ?_
  conv => arg 2; cbv
  refine X.done T39_ok rfl (fun N w' v hN hS hv => ?_)
  obtain ⟨p, hp⟩ : ∃ p, N[2]? = some p := ⟨_, List.getElem?_eq_getElem (by rw [hS.len]; simp)⟩
  have hext := hS.ext 2 ⟨true, cs, none⟩ p rfl hp rfl
  simp only [resV, SV.den, hp, Num.cap, Option.some.injEq] at hv
  refine ⟨p.b, p.o, p.x, by rw [← hv, Nat.add_zero, Nat.sub_zero], ?_, hext, by simp only [hlen] at hext; omega, fun j c hj => ?_, fun j hj => hS.room 2 ⟨true, cs, none⟩ p rfl hp rfl j hj, hS.chg.ro1⟩
  · rcases hS.foot 2 ⟨true, cs, none⟩ p rfl hp rfl with h | h
    · exact h
    · exact absurd (h 0 (by simp only [hlen] at hext; omega)) ro_not
  · obtain ⟨v, h1, h2⟩ := hS.cell 2 ⟨true, cs, none⟩ p rfl hp j c hj
    rw [hcs] at hj
    obtain ⟨h3, rfl⟩ := bytesL_get g n j c hj
    exact ⟨_, rfl, by rw [h2]; simpa [SV.den] using h1.symm⟩
end Go.Proofs.Ytkjhpaeminegoaa

namespace Go.Proofs.Ytkjhpaeminegoaa
open Go.Eng
structure Hd where
  (size count m : Nat) (po : Option Addr) (n cp : Nat) (off : Bool) (falls : Int) (fused : Bool) (fuse : Int)
def Hd.sv (h : Hd) : List SV := [.int .i64 (.nat h.size), .int .i64 (.nat h.count), .raw (.map (some h.m)), .slv h.po h.n h.cp, .bool (.lit h.off), .int .u64 (.v h.falls), .bool (.lit h.fused), .int .i64 (.v h.fuse)]
def Hd.vals (h : Hd) : List Value := [.int .i64 h.size, .int .i64 h.count, .map (some h.m), .slice h.po h.n h.cp, .bool h.off, .int .u64 h.falls, .bool h.fused, .int .i64 h.fuse]
theorem Hd.den (h : Hd) (N : Nums) : SV.denL N h.sv = some h.vals := rfl
def HdAt (b y : Nat) (h : Hd) (w : World) : Prop := ∀ (j : Nat) (v : Value), h.vals[j]? = some v → w.cell? ⟨b, y + j, none⟩ = some v
def HdFree (b y : Nat) (w : World) : Prop := ∀ j, j < 8 → w.frozen? ⟨b, y + j, none⟩ = false
def hdO (b y : Nat) (k o : Nat) : Prop := k = b ∧ y ≤ o ∧ o < y + 8
def Hd.fall (h : Hd) : Hd := if h.off then h else { h with off := true, falls := IntKind.u64.wrap (h.falls + 1) }
def Hd.lit (h : Hd) (n : Int) : Hd := { h with fused := true, fuse := if n < 0 then 0 else n }
def Hd.burn (h : Hd) : Bool × Hd := if h.fused then (if h.fuse = 0 then (true, h.fall) else (false, { h with fuse := IntKind.i64.wrap (h.fuse - 1) })) else (false, h)
theorem HdAt.cells {b y : Nat} {h : Hd} {w : World} (hh : HdAt b y h w) (N : Nums) (j : Nat) (c : SV) (hj : h.sv[j]? = some c) : ∃ v, c.den N = some v ∧ w.cell? ⟨b, y + j, none⟩ = some v := by
  obtain ⟨_, h2⟩ := SV.denL_get _ (h.den N)
  obtain ⟨v, k1, k2⟩ := h2 j c hj
  exact ⟨v, k1, hh j v k2⟩
theorem HdAt.lt {b y : Nat} {h : Hd} {w : World} (hh : HdAt b y h w) : b < w.heap.size := World.block_lt_of_cell? _ _ (hh 0 _ rfl)
theorem HdAt.room {b y : Nat} {h : Hd} {w : World} (hh : HdAt b y h w) (hf : HdFree b y w) (j : Nat) (hj : j < 8) : (w.cell? ⟨b, y + j, none⟩).isSome = true ∧ w.frozen? ⟨b, y + j, none⟩ = false := by
  refine ⟨?_, hf j hj⟩
  obtain ⟨v, hv⟩ : ∃ v, h.vals[j]? = some v := ⟨_, List.getElem?_eq_getElem (by simpa [Hd.vals] using hj)⟩
  rw [hh j v hv]; rfl
theorem hd_back {E : Env} {b y : Nat} {h : Hd} {w : World} {N : Nums} {g : Rg} {rg : List Rg} (hp : N[0]? = some ⟨b, y, 8⟩) (hS : Sat E N (g :: rg) w) (hd : SV.denL N g.cells = some h.vals) : HdAt b y h w := fun j v hj => hS.row (r := 0) rfl hp hd j v hj
theorem own1_chg {b y x : Nat} {cs : List SV} {w w' : World} (h : Chg (InR [⟨b, y, x⟩] [⟨true, cs, none⟩]) w w') : Chg (fun k o => k = b ∧ y ≤ o ∧ o < y + x) w w' := h.mono fun k o _ hr => by
  obtain ⟨r, g, q, hg, hq, _, e1, e2, e3⟩ := hr
  cases r with
  | zero => simp at hq; subst hq; exact ⟨e1, e2, e3⟩
  | succ r => simp at hg
set_option maxRecDepth 100000 in
set_option cbv.maxSteps 100000000 in
theorem may_ok (b y : Nat) (h : Hd) (w : World) (hh : HdAt b y h w) : Calls Try.prog 37 #[.pointer (some ⟨b, y, none⟩)] w fun e w' => e = .returned (.int .i64 (if h.off then 8 else 0)) ∧ Chg (fun _ _ => False) w w' := by
  refine X.begin (rg := [⟨false, h.sv, none⟩]) (N := [⟨b, y, 8⟩]) (ss := [.own 0 0]) Try.func37 rfl B37_ok rfl rfl (Sat.std1 false hh.lt (hh.cells _) (fun h => by cases h)) ?_
  obtain ⟨size, count, m, po, n, cp, off, falls, fused, fuse⟩ := h
  cases off with
  | true =>
    refine X.go T37_ok 400 _ rfl Try.results37 ?_
    conv => arg 2; cbv
    refine X.done T37_ok rfl (fun N w' v hN hS hv => ?_)
    simp [resV, SV.den, SI.den] at hv
    exact ⟨by subst hv; rfl, hS.chg.ro1⟩
  | false =>
    refine X.go T37_ok 400 _ rfl Try.results37 ?_
    conv => arg 2; cbv
    refine X.done T37_ok rfl (fun N w' v hN hS hv => ?_)
    simp [resV, SV.den, SI.den] at hv
    exact ⟨by subst hv; rfl, hS.chg.ro1⟩
set_option maxRecDepth 100000 in
set_option cbv.maxSteps 100000000 in
theorem size_ok (b y : Nat) (h : Hd) (w : World) (hh : HdAt b y h w) : Calls Try.prog 17 #[.pointer (some ⟨b, y, none⟩)] w fun e w' => e = .returned (.int .i64 h.size) ∧ Chg (fun _ _ => False) w w' := by
  refine X.begin (rg := [⟨false, h.sv, none⟩]) (N := [⟨b, y, 8⟩]) (ss := [.own 0 0]) Try.func17 rfl B17_ok rfl rfl (Sat.std1 false hh.lt (hh.cells _) (fun h => by cases h)) ?_
  refine X.go T17_ok 400 _ rfl Try.results17 ?_
  conv => arg 2; cbv
  refine X.done T17_ok rfl (fun N w' v hN hS hv => ?_)
  simp [resV, SV.den, SI.den, SB.den] at hv
  exact ⟨by subst hv; rfl, hS.chg.ro1⟩
set_option maxRecDepth 100000 in
set_option cbv.maxSteps 100000000 in
theorem count_ok (b y : Nat) (h : Hd) (w : World) (hh : HdAt b y h w) : Calls Try.prog 18 #[.pointer (some ⟨b, y, none⟩)] w fun e w' => e = .returned (.int .i64 h.count) ∧ Chg (fun _ _ => False) w w' := by
  refine X.begin (rg := [⟨false, h.sv, none⟩]) (N := [⟨b, y, 8⟩]) (ss := [.own 0 0]) Try.func18 rfl B18_ok rfl rfl (Sat.std1 false hh.lt (hh.cells _) (fun h => by cases h)) ?_
  refine X.go T18_ok 400 _ rfl Try.results18 ?_
  conv => arg 2; cbv
  refine X.done T18_ok rfl (fun N w' v hN hS hv => ?_)
  simp [resV, SV.den, SI.den, SB.den] at hv
  exact ⟨by subst hv; rfl, hS.chg.ro1⟩
set_option maxRecDepth 100000 in
set_option cbv.maxSteps 100000000 in
theorem ison_ok (b y : Nat) (h : Hd) (w : World) (hh : HdAt b y h w) : Calls Try.prog 21 #[.pointer (some ⟨b, y, none⟩)] w fun e w' => e = .returned (.bool (!h.off)) ∧ Chg (fun _ _ => False) w w' := by
  refine X.begin (rg := [⟨false, h.sv, none⟩]) (N := [⟨b, y, 8⟩]) (ss := [.own 0 0]) Try.func21 rfl B21_ok rfl rfl (Sat.std1 false hh.lt (hh.cells _) (fun h => by cases h)) ?_
  refine X.go T21_ok 400 _ rfl Try.results21 ?_
  conv => arg 2; cbv
  refine X.done T21_ok rfl (fun N w' v hN hS hv => ?_)
  simp [resV, SV.den, SI.den, SB.den] at hv
  exact ⟨by subst hv; rfl, hS.chg.ro1⟩
set_option maxRecDepth 100000 in
set_option cbv.maxSteps 100000000 in
theorem falls_ok (b y : Nat) (h : Hd) (w : World) (hh : HdAt b y h w) : Calls Try.prog 22 #[.pointer (some ⟨b, y, none⟩)] w fun e w' => e = .returned (.int .u64 h.falls) ∧ Chg (fun _ _ => False) w w' := by
  refine X.begin (rg := [⟨false, h.sv, none⟩]) (N := [⟨b, y, 8⟩]) (ss := [.own 0 0]) Try.func22 rfl B22_ok rfl rfl (Sat.std1 false hh.lt (hh.cells _) (fun h => by cases h)) ?_
  refine X.go T22_ok 400 _ rfl Try.results22 ?_
  conv => arg 2; cbv
  refine X.done T22_ok rfl (fun N w' v hN hS hv => ?_)
  simp [resV, SV.den, SI.den, SB.den] at hv
  exact ⟨by subst hv; rfl, hS.chg.ro1⟩
set_option maxRecDepth 100000 in
set_option cbv.maxSteps 100000000 in
theorem waits_ok (b y : Nat) (h : Hd) (w : World) (hh : HdAt b y h w) : Calls Try.prog 23 #[.pointer (some ⟨b, y, none⟩)] w fun e w' => e = .returned (.int .i64 h.n) ∧ Chg (fun _ _ => False) w w' := by
  refine X.begin (rg := [⟨false, h.sv, none⟩]) (N := [⟨b, y, 8⟩]) (ss := [.own 0 0]) Try.func23 rfl B23_ok rfl rfl (Sat.std1 false hh.lt (hh.cells _) (fun h => by cases h)) ?_
  refine X.go T23_ok 400 _ rfl Try.results23 ?_
  conv => arg 2; cbv
  refine X.done T23_ok rfl (fun N w' v hN hS hv => ?_)
  simp [resV, SV.den, SI.den, SB.den] at hv
  exact ⟨by subst hv; rfl, hS.chg.ro1⟩
set_option maxRecDepth 100000 in
set_option cbv.maxSteps 100000000 in
theorem fall_ok (b y : Nat) (h : Hd) (w : World) (hh : HdAt b y h w) (hf : HdFree b y w) : Calls Try.prog 26 #[.pointer (some ⟨b, y, none⟩)] w fun e w' => e = .returned (.tuple #[]) ∧ HdAt b y h.fall w' ∧ Chg (hdO b y) w w' := by
  refine X.begin (rg := [⟨true, h.sv, none⟩]) (N := [⟨b, y, 8⟩]) (ss := [.own 0 0]) Try.func26 rfl B26_ok rfl rfl (Sat.std1 true hh.lt (hh.cells _) (fun _ => hf)) ?_
  obtain ⟨size, count, m, po, n, cp, off, falls, fused, fuse⟩ := h
  cases off with
  | true =>
    refine X.go T26_ok 400 _ rfl Try.results26 ?_
    conv => arg 2; cbv
    refine X.over T26_ok rfl (fun N w' v hN hS hv => ?_)
    simp [resV, SV.den, SV.denL] at hv
    exact ⟨by subst hv; rfl, hd_back (hN 0 _ rfl) hS rfl, own1_chg hS.chg⟩
  | false =>
    refine X.go T26_ok 400 _ rfl Try.results26 ?_
    conv => arg 2; cbv
    refine X.over T26_ok rfl (fun N w' v hN hS hv => ?_)
    simp [resV, SV.den, SV.denL] at hv
    exact ⟨by subst hv; rfl, hd_back (hN 0 _ rfl) hS rfl, own1_chg hS.chg⟩
set_option maxRecDepth 100000 in
set_option cbv.maxSteps 100000000 in
theorem fuse_ok (b y : Nat) (h : Hd) (n : Int) (w : World) (hh : HdAt b y h w) (hf : HdFree b y w) : Calls Try.prog 25 #[.pointer (some ⟨b, y, none⟩), .int .i64 n] w fun e w' => e = .returned (.tuple #[]) ∧ HdAt b y (h.lit n) w' ∧ Chg (hdO b y) w w' := by
  refine X.begin (rg := [⟨true, h.sv, none⟩]) (N := [⟨b, y, 8⟩]) (ss := [.own 0 0, .int .i64 (.v n)]) Try.func25 rfl B25_ok rfl rfl (Sat.std1 true hh.lt (hh.cells _) (fun _ => hf)) ?_
  obtain ⟨size, count, m, po, n', cp, off, falls, fused, fuse⟩ := h
  refine X.go T25_ok 400 _ rfl Try.results25 ?_
  conv => arg 2; cbv
  refine X.over T25_ok rfl (fun N w' v hN hS hv => ?_)
  simp [resV, SV.den, SV.denL] at hv
  exact ⟨by subst hv; rfl, hd_back (hN 0 _ rfl) hS rfl, own1_chg hS.chg⟩
set_option maxRecDepth 100000 in
set_option cbv.maxSteps 100000000 in
theorem burns_ok (b y : Nat) (h : Hd) (w : World) (hh : HdAt b y h w) (hf : HdFree b y w) : Calls Try.prog 40 #[.pointer (some ⟨b, y, none⟩)] w fun e w' => e = .returned (.bool h.burn.1) ∧ HdAt b y h.burn.2 w' ∧ Chg (hdO b y) w w' := by
  refine X.begin (rg := [⟨true, h.sv, none⟩]) (N := [⟨b, y, 8⟩]) (ss := [.own 0 0]) Try.func40 rfl B40_ok rfl rfl (Sat.std1 true hh.lt (hh.cells _) (fun _ => hf)) ?_
  obtain ⟨size, count, m, po, n, cp, off, falls, fused, fuse⟩ := h
  cases fused with
  | false =>
    refine X.go T40_ok 400 _ rfl Try.results40 ?_
    conv => arg 2; cbv
    refine X.done T40_ok rfl (fun N w' v hN hS hv => ?_)
    simp [resV, SV.den, SB.den] at hv
    exact ⟨by subst hv; rfl, hd_back (hN 0 _ rfl) hS rfl, own1_chg hS.chg⟩
  | true =>
    refine X.go T40_ok 400 _ rfl Try.results40 ?_
    conv => arg 2; cbv
    refine X.cond rfl (fun hc => ?_) (fun hc => ?_)
    · simp only [SB.T, SI.den] at hc
      subst hc
      cases off with
      | true =>
        refine X.goC FALL_ok false T40_ok 400 _ rfl Try.results40 ?_
        conv => arg 2; cbv
        refine X.done T40_ok rfl (fun N w' v hN hS hv => ?_)
        simp [resV, SV.den, SB.den] at hv
        exact ⟨by subst hv; rfl, hd_back (hN 0 _ rfl) hS rfl, own1_chg hS.chg⟩
      | false =>
        refine X.goC FALL_ok false T40_ok 400 _ rfl Try.results40 ?_
        conv => arg 2; cbv
        refine X.done T40_ok rfl (fun N w' v hN hS hv => ?_)
        simp [resV, SV.den, SB.den] at hv
        exact ⟨by subst hv; rfl, hd_back (hN 0 _ rfl) hS rfl, own1_chg hS.chg⟩
    · simp only [SB.F, SI.den] at hc
      refine X.go T40_ok 400 _ rfl Try.results40 ?_
      conv => arg 2; cbv
      refine X.done T40_ok rfl (fun N w' v hN hS hv => ?_)
      simp [resV, SV.den, SB.den] at hv
      have hb : Hd.burn ⟨size, count, m, po, n, cp, off, falls, true, fuse⟩ = (false, ⟨size, count, m, po, n, cp, off, falls, true, IntKind.i64.wrap (fuse - 1)⟩) := by
        unfold Hd.burn; rw [if_pos rfl, if_neg hc]
      rw [hb]
      exact ⟨by subst hv; rfl, hd_back (hN 0 _ rfl) hS rfl, own1_chg hS.chg⟩
end Go.Proofs.Ytkjhpaeminegoaa
