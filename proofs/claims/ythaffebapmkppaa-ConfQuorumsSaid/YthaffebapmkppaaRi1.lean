/- The ring: rows of bytes that are new; slices.Compact, slices.Sort at any. -/
import Derived.Test.YthaffebapmkppaaPd11
import Derived.Shelf.SlicesE.Compact
import Derived.Shelf.SlicesE.Kit

namespace Go.Proofs.Ythaffebapmkppaa
open Go Go.Eng Go.Sort

theorem chg_mapBlock {w : World} {b y n : Nat} {f : Array Value → Array Value} (hs : ∀ c, (f c).size = c.size) (ho : ∀ c o, ¬ (y ≤ o ∧ o < y + n) → (f c)[o]? = c[o]?) : Chg (arrD b y n) w (Go.Sort.mapBlock w b f) := by
  refine ⟨rfl, rfl, rfl, by simp [Go.Sort.mapBlock], Nat.le_refl _, fun k hk hno => ?_, fun k c e fr hc => ?_⟩
  · show (w.heap.modify b _)[k]? = _
    rw [Array.getElem?_modify]
    by_cases e : b = k
    · subst e
      rw [if_pos rfl]
      cases hx : w.heap[b]? with
      | none => rfl
      | some x =>
        cases x with
        | cells c e fr =>
          have : f c = c := by
            apply Array.ext_getElem?
            intro o
            exact ho c o fun h => hno o ⟨rfl, h.1, h.2⟩
          simp [Go.Sort.onCells, this]
        | _ => rfl
    · rw [if_neg e]
  · by_cases e' : b = k
    · subst e'
      refine ⟨f c, ?_, hs c, fun o h => ho c o fun h2 => h ⟨rfl, h2.1, h2.2⟩⟩
      show (w.heap.modify b _)[b]? = _
      rw [Array.getElem?_modify, if_pos rfl, hc]
      rfl
    · refine ⟨c, ?_, rfl, fun _ _ => rfl⟩
      show (w.heap.modify b _)[k]? = _
      rw [Array.getElem?_modify, if_neg e']
      exact hc

theorem chg_putRow {w : World} (q b y : Nat) (d : Array Int) : Chg (arrD b y d.size) w (Go.Sort.putRow (Value.int .u8) (Go.Sort.ahead w q) b y d) := by
  have h : Chg (arrD b y d.size) (Go.Sort.ahead w q) (Go.Sort.putRow (Value.int .u8) (Go.Sort.ahead w q) b y d) := by
    refine chg_mapBlock (fun c => by simp [Go.Sort.putCells]) (fun c o ho => ?_)
    simp only [Go.Sort.putCells, Array.getElem?_mapIdx]
    cases c[o]? with
    | none => rfl
    | some x => simp [ho]
  exact ((Chg.drewN (w := w) q).mono fun _ _ _ h => h.elim).trans h (fun _ _ _ h => h)

/-- distinct ones of a row that rises, in place -/
theorem compact8_ok (b y n c : Nat) (d : Array Int) (w : World) (hA : AtA w b y d) (hn : d.size = n) (hbig : n < 2305843009213693952) (hnc : n ≤ c) :
    Calls Try.prog 37 #[.slice (some ⟨b, y, none⟩) n c] w fun e w' => e = .returned (.slice (some ⟨b, y, none⟩) (Go.Lib.compactUpTo d n).length c) ∧ AtA w' b y (Go.Lib.compactUpTo d n).toArray ∧ Chg (arrD b y n) w w' := by
  have key := AnyE.slices_Compact Try.compactL (Value.int .u8) (fun _ => rfl) (EqlAt.intD _ _ .u8) (NeqAt.intD _ _ .u8) 0 (by exact Try.zeroValue5) b y c d w hA (by omega) (by omega)
  subst hn
  refine Calls.mono key fun e w' ⟨h1, q, h2⟩ => ⟨h1, ?_, ?_⟩
  · have hsz : (Go.Lib.compactUpTo d d.size).length ≤ d.size := by
      unfold Go.Lib.compactUpTo
      rw [List.length_map]
      exact Nat.le_trans (List.length_filter_le _ _) (by simp)
    have hh := Go.Sort.holds_putRow (Value.int .u8) (Go.Sort.ahead w q) b y d (Go.Lib.compactUpTo d d.size ++ List.replicate (d.size - (Go.Lib.compactUpTo d d.size).length) (0 : Int)).toArray hA (by simp; omega)
    rw [h2]
    intro k hk
    have hk : k < (Go.Lib.compactUpTo d d.size).length := by simpa using hk
    have := hh k (by simp; omega)
    rw [show ((Go.Lib.compactUpTo d d.size ++ List.replicate (d.size - (Go.Lib.compactUpTo d d.size).length) (0 : Int)).toArray)[k]! = ((Go.Lib.compactUpTo d d.size).toArray)[k]! by
      simp [List.getElem?_append_left hk]] at this
    exact this
  · have := chg_putRow (w := w) q b y (Go.Lib.compactUpTo d d.size ++ List.replicate (d.size - (Go.Lib.compactUpTo d d.size).length) (0 : Int)).toArray
    have hsz : (Go.Lib.compactUpTo d d.size).length ≤ d.size := by
      unfold Go.Lib.compactUpTo
      rw [List.length_map]
      exact Nat.le_trans (List.length_filter_le _ _) (by simp)
    rw [h2]
    refine this.mono fun k o _ ⟨e1, e2, e3⟩ => ⟨e1, e2, ?_⟩
    simp at e3
    omega

end Go.Proofs.Ythaffebapmkppaa
