/- The ring: rows of bytes that are new; slices.Compact, slices.Sort at any. -/
import Derived.Test.YthaffebapmkppaaPd11
import Derived.Shelf.SlicesE.Compact
import Derived.Shelf.SlicesE.Kit

namespace Go.Proofs.Ythaffebapmkppaa
open Go Go.Eng Go.Sort

theorem chg_mapBlock {w : World} {b y n : Nat} {f : Array Value → Array Value} (hs : ∀ c, (f c).size = c.size) (ho : ∀ c o, ¬ (y ≤ o ∧ o < y + n) → (f c)[o]? = c[o]?) : Chg (arrD b y n) w (Go.Sort.mapBlock w b f) := by
  refine ⟨rfl, rfl, rfl, by simp [Go.Sort.mapBlock], Nat.le_refl _, fun k hk hno => ?_, fun k c e fr hc => ?_⟩
  · show (w.heap.modify b _)[k]? = _
    rw [Array.getElem?_modify]
    by_cases e : b = k
    · subst e
      rw [if_pos rfl]
      cases hx : w.heap[b]? with
      | none => rfl
      | some x =>
        cases x with
        | cells c e fr =>
          have : f c = c := by
            apply Array.ext_getElem?
            intro o
            exact ho c o fun h => hno o ⟨rfl, h.1, h.2⟩
          simp [Go.Sort.onCells, this]
        | _ => rfl
    · rw [if_neg e]
  · by_cases e' : b = k
    · subst e'
      refine ⟨f c, ?_, hs c, fun o h => ho c o fun h2 => h ⟨rfl, h2.1, h2.2⟩⟩
      show (w.heap.modify b _)[b]? = _
      rw [Array.getElem?_modify, if_pos rfl, hc]
      rfl
    · refine ⟨c, ?_, rfl, fun _ _ => rfl⟩
      show (w.heap.modify b _)[k]? = _
      rw [Array.getElem?_modify, if_neg e']
      exact hc

theorem chg_putRow {w : World} (q b y : Nat) (d : Array Int) : Chg (arrD b y d.size) w (Go.Sort.putRow (Value.int .u8) (Go.Sort.ahead w q) b y d) := by
  have h : Chg (arrD b y d.size) (Go.Sort.ahead w q) (Go.Sort.putRow (Value.int .u8) (Go.Sort.ahead w q) b y d) := by
    refine chg_mapBlock (fun c => by simp [Go.Sort.putCells]) (fun c o ho => ?_)
    simp only [Go.Sort.putCells, Array.getElem?_mapIdx]
    cases c[o]? with
    | none => rfl
    | some x => simp [ho]
  exact ((Chg.drewN (w := w) q).mono fun _ _ _ h => h.elim).trans h (fun _ _ _ h => h)

/-- distinct ones of a row that rises, in place -/
theorem compact8_ok (b y n c : Nat) (d : Array Int) (w : World) (hA : AtA w b y d) (hn : d.size = n) (hbig : n < 2305843009213693952) (hnc : n ≤ c) :
    Calls Try.prog 37 #[.slice (some ⟨b, y, none⟩) n c] w fun e w' => e = .returned (.slice (some ⟨b, y, none⟩) (Go.Lib.compactUpTo d n).length c) ∧ AtA w' b y (Go.Lib.compactUpTo d n).toArray ∧ Chg (arrD b y n) w w' := by
  have key := AnyE.slices_Compact Try.compactL (Value.int .u8) (fun _ => rfl) (EqlAt.intD _ _ .u8) (NeqAt.intD _ _ .u8) 0 (by exact Try.zeroValue5) b y c d w hA (by omega) (by omega)
  subst hn
  refine Calls.mono key fun e w' ⟨h1, q, h2⟩ => ⟨h1, ?_, ?_⟩
  · have hsz : (Go.Lib.compactUpTo d d.size).length ≤ d.size := by
      unfold Go.Lib.compactUpTo
      rw [List.length_map]
      exact Nat.le_trans (List.length_filter_le _ _) (by simp)
    have hh := Go.Sort.holds_putRow (Value.int .u8) (Go.Sort.ahead w q) b y d (Go.Lib.compactUpTo d d.size ++ List.replicate (d.size - (Go.Lib.compactUpTo d d.size).length) (0 : Int)).toArray hA (by simp; omega)
    rw [h2]
    intro k hk
    have hk : k < (Go.Lib.compactUpTo d d.size).length := by simpa using hk
    have := hh k (by simp; omega)
    rw [show ((Go.Lib.compactUpTo d d.size ++ List.replicate (d.size - (Go.Lib.compactUpTo d d.size).length) (0 : Int)).toArray)[k]! = ((Go.Lib.compactUpTo d d.size).toArray)[k]! by
      simp [List.getElem?_append_left hk]] at this
    exact this
  · have := chg_putRow (w := w) q b y (Go.Lib.compactUpTo d d.size ++ List.replicate (d.size - (Go.Lib.compactUpTo d d.size).length) (0 : Int)).toArray
    have hsz : (Go.Lib.compactUpTo d d.size).length ≤ d.size := by
      unfold Go.Lib.compactUpTo
      rw [List.length_map]
      exact Nat.le_trans (List.length_filter_le _ _) (by simp)
    rw [h2]
    refine this.mono fun k o _ ⟨e1, e2, e3⟩ => ⟨e1, e2, ?_⟩
    simp at e3
    omega

/-! ### new memory that a call turned -/
theorem Sat.newTurn {E : Env} {N : Nums} {rg : List Rg} {w w' : World} {O' : Nat → Nat → Prop} (h : Sat E N rg w) (hE : ∀ k o, ¬ E.D k o) (hR : ∀ w, E.R w) (hrg : ∀ g ∈ rg, (g.own = true ∨ g.cells = []) ∧ g.ob = none) (hc : Chg O' w w')
    (hO : ∀ k o, O' k o → E.W.heap.size ≤ k ∧ (E.im k o).isSome = true) (m' : Mem) (hm : ∀ k o v, m' k o = some v → (¬ O' k o ∧ E.im k o = some v) ∨ (O' k o ∧ w'.cell? ⟨k, o, none⟩ = some v)) : Sat { E with im := m' } N rg w' := by
  classical
  have s1 : Sat { E with im := (fun k o => if O' k o then none else E.im k o), D := O', R := fun _ => True } N rg w :=
    { h with
      imm := fun k o v hv => by
        have hv : (if O' k o then none else E.im k o) = some v := hv
        split at hv
        · cases hv
        · exact h.imm k o v hv
      imd := fun r g p hg hp ho j hj => by
        show (if O' p.b (p.o + j) then none else E.im p.b (p.o + j)) = none
        split
        · rfl
        · exact h.imd r g p hg hp ho j hj
      obj := fun r g p ob hg hp ho => by rw [(hrg g (List.mem_of_getElem? hg)).2] at ho; cases ho
      dd := fun r g p hg hp ho j hj hd => by
        have := (hO _ _ hd).2
        rw [h.imd r g p hg hp ho j hj] at this
        cases this
      dlt := fun k o hd => by
        obtain ⟨v, hv⟩ := Option.isSome_iff_exists.1 (hO k o hd).2
        exact .inl (by rw [h.imm k o v hv]; rfl)
      loc := fun _ _ _ _ _ => trivial
      res := trivial }
  have s2 := Sat.turn s1 (w' := w') (D' := O') (R' := fun _ => True) hc (fun k o hd => .inl (hO k o hd).1) (fun k o hd => if_pos hd) (fun g hg => (hrg g hg).1) (fun k o hd => ⟨.inl hd, (s1.dlt k o hd).of (fun hs => by
    obtain ⟨u, hu⟩ := Option.isSome_iff_exists.1 hs
    obtain ⟨cs, ex, fr, hh, hcu⟩ := Go.Sort.cells_of_cell? hu
    obtain ⟨c', k1, k2, _⟩ := hc.cells k cs ex fr hh
    have hlt : o < cs.size := (Array.getElem?_eq_some_iff.1 hcu).1
    simp [World.cell?, k1, k2, hlt]) (by
    obtain ⟨v, hv⟩ := Option.isSome_iff_exists.1 (hO k o hd).2
    obtain ⟨cs, ex, fr, hh, _⟩ := Go.Sort.cells_of_cell? (h.imm k o v hv)
    obtain ⟨c', k1, _, _⟩ := hc.cells k cs ex fr hh
    unfold objAt
    rw [hh, k1])⟩) (fun _ _ _ _ _ => trivial) trivial
  have s3 := Sat.imSay s2 (m' := m') fun k o v hv => by
    rcases hm k o v hv with ⟨h1, h2⟩ | ⟨h1, h2⟩
    · exact .inl (by show (if O' k o then none else E.im k o) = some v; rw [if_neg h1]; exact h2)
    · exact .inr ⟨h1, h2⟩
  exact { s3 with
    obj := fun r g p ob hg hp ho => by rw [(hrg g (List.mem_of_getElem? hg)).2] at ho; cases ho
    dd := fun r g p hg hp ho j hj hd => hE _ _ hd
    dlt := fun k o hd => (hE _ _ hd).elim
    loc := fun _ w' _ _ _ => hR w'
    res := hR _ }

theorem Goes.newTurn {P : Program} {fn : Func} {Q : Ending → World → Prop} {W : World} {O : Nat → Nat → Prop} {im : Mem} {N0 N : Nums} {B : SchT} {k : List It} {s : St} {dst : Option Nat} {v : Value} {w w' : World} {O' : Nat → Nat → Prop} (hN : N0.le N) (h : Sat (mkE P fn Q W O im (fun _ _ => False) (fun _ => True) N0 B).toEnv N s.rg w)
    (hrg : ∀ g ∈ s.rg, (g.own = true ∨ g.cells = []) ∧ g.ob = none) (hc : Chg O' w w') (hO : ∀ k o, O' k o → W.heap.size ≤ k ∧ (im k o).isSome = true) (m' : Mem) (hm : ∀ k o v, m' k o = some v → (¬ O' k o ∧ im k o = some v) ∨ (O' k o ∧ w'.cell? ⟨k, o, none⟩ = some v))
    {r : SV} (hr : r.den N = some v) {f' : Fr} (hp : putO fn.ntmps s.fr dst (.val r) = some f') (hx : X (mkE P fn Q W O m' (fun _ _ => False) (fun _ => True) N0 B) k ⟨f', s.rg⟩) : Goes (mkE P fn Q W O im (fun _ _ => False) (fun _ => True) N0 B) N k s.fr dst v w' :=
  ⟨mkE P fn Q W O m' (fun _ _ => False) (fun _ => True) N0 B, N, r, s.rg, f', rfl, rfl, rfl, rfl, Nums.le.refl N, hN, Sat.newTurn (E := (mkE P fn Q W O im (fun _ _ => False) (fun _ => True) N0 B).toEnv) h (fun _ _ h => h) (fun _ => trivial) hrg hc hO m' hm, hr, hp, hx⟩

end Go.Proofs.Ythaffebapmkppaa
