/- The history in memory. -/
import Derived.Test.YtcfghkiokdbhjaaHi3
import Derived.Test.YtcfghkiokdbhjaaEng17

namespace Go.Proofs.Ytcfghkiokdbhjaa
open Go.Eng

/-- a history: where it lies, its entries' row, its numbers, its entries -/
structure Hist where
  (hb hy : Nat) (nl : Bool) (eb ey n cp : Nat) (q : Nat → Int) (f : Nat → Ent)

def Hist.po (H : Hist) : Option Addr := bif H.nl then none else some ⟨H.eb, H.ey, none⟩
/-- its cells -/
def Hist.D (H : Hist) (k o : Nat) : Prop := (k = H.hb ∧ H.hy ≤ o ∧ o < H.hy + 10) ∨ (k = H.eb ∧ H.ey ≤ o ∧ o < H.ey + H.cp * 18)

structure Hist.Ok (H : Hist) : Prop where
  nil : H.nl = true → H.n = 0 ∧ H.cp = 0
  le : H.n ≤ H.cp
  apart : ∀ j, j < H.cp * 18 → ¬ (H.eb = H.hb ∧ H.hy ≤ H.ey + j ∧ H.ey + j < H.hy + 10)

structure HistAt (H : Hist) (w : World) : Prop where
  hd : w.cell? ⟨H.hb, H.hy, none⟩ = some (.slice H.po H.n H.cp)
  sq : ∀ c, c < 9 → w.cell? ⟨H.hb, H.hy + 1 + c, none⟩ = some (.int .u64 (H.q c))
  fz : ∀ j, j < 10 → w.frozen? ⟨H.hb, H.hy + j, none⟩ = false
  room : ∀ j, j < H.cp * 18 → (w.cell? ⟨H.eb, H.ey + j, none⟩).isSome = true ∧ w.frozen? ⟨H.eb, H.ey + j, none⟩ = false
  ents : ArrAt H.eb H.ey 18 H.n (fun i => (H.f i).vals) w

theorem Hist.Ok.po_some {H : Hist} (ok : H.Ok) {i : Nat} (h : i < H.n) : H.po = some ⟨H.eb, H.ey, none⟩ := by
  unfold Hist.po
  cases hn : H.nl with
  | true => have := (ok.nil hn).1; omega
  | false => rfl

theorem Hist.Ok.inD {H : Hist} (ok : H.Ok) {i j : Nat} (h : i < H.n) (hj : j < 18) : H.ey + (i * 18 + j) < H.ey + H.cp * 18 := by
  have := idx_lt (sz := 18) h hj
  have := ok.le
  omega

theorem HistAt.there {H : Hist} {w : World} (h : HistAt H w) : ∀ k o, H.D k o → (w.cell? ⟨k, o, none⟩).isSome = true := by
  rintro k o (⟨rfl, h1, h2⟩ | ⟨rfl, h1, h2⟩)
  · by_cases e : o = H.hy
    · subst e; rw [h.hd]; rfl
    · have := h.sq (o - H.hy - 1) (by omega)
      rw [show H.hy + 1 + (o - H.hy - 1) = o by omega] at this
      rw [this]; rfl
  · have := (h.room (o - H.ey) (by omega)).1
    rwa [show H.ey + (o - H.ey) = o by omega] at this

theorem HistAt.free {H : Hist} {w : World} (h : HistAt H w) : ∀ k o, H.D k o → w.frozen? ⟨k, o, none⟩ = false := by
  rintro k o (⟨rfl, h1, h2⟩ | ⟨rfl, h1, h2⟩)
  · have := h.fz (o - H.hy) (by omega)
    rwa [show H.hy + (o - H.hy) = o by omega] at this
  · have := (h.room (o - H.ey) (by omega)).2
    rwa [show H.ey + (o - H.ey) = o by omega] at this

theorem HistAt.loc {H : Hist} (ok : H.Ok) : Eng.Loc H.D (HistAt H) := by
  intro w w' hk hs h
  have hobj : ∀ j, j < 10 → w'.cell? ⟨H.hb, H.hy + j, none⟩ = w.cell? ⟨H.hb, H.hy + j, none⟩ ∧ w'.frozen? ⟨H.hb, H.hy + j, none⟩ = w.frozen? ⟨H.hb, H.hy + j, none⟩ := fun j hj => hk _ _ (.inl ⟨rfl, by omega, by omega⟩)
  have hrow : ∀ j, j < H.cp * 18 → w'.cell? ⟨H.eb, H.ey + j, none⟩ = w.cell? ⟨H.eb, H.ey + j, none⟩ ∧ w'.frozen? ⟨H.eb, H.ey + j, none⟩ = w.frozen? ⟨H.eb, H.ey + j, none⟩ := fun j hj => hk _ _ (.inr ⟨rfl, by omega, by omega⟩)
  refine ⟨?_, fun c hc => ?_, fun j hj => by rw [(hobj j hj).2]; exact h.fz j hj, fun j hj => by rw [(hrow j hj).1, (hrow j hj).2]; exact h.room j hj, fun s hs' => ⟨(h.ents s hs').1, fun q v hq => ?_⟩⟩
  · have := (hobj 0 (by omega)).1
    rw [Nat.add_zero] at this
    rw [this]; exact h.hd
  · have := (hobj (1 + c) (by omega)).1
    rw [← Nat.add_assoc] at this
    rw [this]; exact h.sq c hc
  · have hq18 : q < 18 := by rw [← (H.f s).vlen]; exact (List.getElem?_eq_some_iff.1 hq).1
    have := ok.inD hs' hq18
    obtain ⟨e1, e2⟩ := hrow (s * 18 + q) (by omega)
    rw [e1, e2]
    exact (h.ents s hs').2 q v hq

/-- the entries, as they are read -/
theorem HistAt.entsIn {H : Hist} {w : World} (h : HistAt H w) (ok : H.Ok) : EntsIn H.po H.n H.f w := fun i hi => ⟨H.eb, H.ey, _, ok.po_some hi, rfl, fun j v hj => by
  rw [Nat.add_assoc]; exact ((h.ents i hi).2 j v hj).1⟩

/-- one entry's cells are written over -/
theorem HistAt.put {H : Hist} {w : World} (h : HistAt H w) (ok : H.Ok) {i j0 : Nat} {vs : List Value} {e' : Ent} (hi : i < H.n) (he : e'.vals = (H.f i).vals.take j0 ++ vs ++ (H.f i).vals.drop (j0 + vs.length)) (hj0 : j0 + vs.length ≤ 18) :
    HistAt { H with f := updA H.f i e' } (putRow w H.eb (H.ey + (i * 18 + j0)) vs) := by
  have hin : ∀ j, j < vs.length → i * 18 + j0 + j < H.cp * 18 := fun j hj => by
    have := ok.inD hi (j := j0 + j) (by omega); omega
  have hself : ∀ j, j < vs.length → (w.cell? ⟨H.eb, H.ey + (i * 18 + j0) + j, none⟩).isSome = true := fun j hj => by
    have := (h.room (i * 18 + j0 + j) (hin j hj)).1
    rwa [← Nat.add_assoc] at this
  have hoth : ∀ k o, ¬ (k = H.eb ∧ H.ey + (i * 18 + j0) ≤ o ∧ o < H.ey + (i * 18 + j0) + vs.length) → (putRow w H.eb (H.ey + (i * 18 + j0)) vs).cell? ⟨k, o, none⟩ = w.cell? ⟨k, o, none⟩ := fun k o hn => putRow_other _ _ _ _ _ _ (fun e => by omega)
  have hobj : ∀ j, j < 10 → (putRow w H.eb (H.ey + (i * 18 + j0)) vs).cell? ⟨H.hb, H.hy + j, none⟩ = w.cell? ⟨H.hb, H.hy + j, none⟩ := fun j hj => hoth _ _ (fun ⟨e1, e2, e3⟩ => by
    refine ok.apart (H.hy + j - H.ey) ?_ ⟨e1.symm, by omega, by omega⟩
    have := hin (H.hy + j - (H.ey + (i * 18 + j0))) (by omega)
    omega)
  refine ⟨?_, fun c hc => ?_, fun j hj => by rw [putRow_frozen]; exact h.fz j hj, fun j hj => ⟨?_, by rw [putRow_frozen]; exact (h.room j hj).2⟩, fun s hs => ⟨by simp only [Ent.vlen], fun q v hq => ?_⟩⟩
  · have := hobj 0 (by omega)
    rw [Nat.add_zero] at this
    exact this.trans h.hd
  · have := hobj (1 + c) (by omega)
    rw [show H.hy + (1 + c) = H.hy + 1 + c by omega] at this
    exact this.trans (h.sq c hc)
  · by_cases e : H.ey + (i * 18 + j0) ≤ H.ey + j ∧ H.ey + j < H.ey + (i * 18 + j0) + vs.length
    · obtain ⟨v, hv⟩ : ∃ v, vs[H.ey + j - (H.ey + (i * 18 + j0))]? = some v := ⟨_, List.getElem?_eq_getElem (by omega)⟩
      have := putRow_same H.eb vs (H.ey + (i * 18 + j0)) w hself _ v hv
      rw [show H.ey + (i * 18 + j0) + (H.ey + j - (H.ey + (i * 18 + j0))) = H.ey + j by omega] at this
      show ((putRow w H.eb (H.ey + (i * 18 + j0)) vs).cell? ⟨H.eb, H.ey + j, none⟩).isSome = true
      rw [this]; rfl
    · show ((putRow w H.eb (H.ey + (i * 18 + j0)) vs).cell? ⟨H.eb, H.ey + j, none⟩).isSome = true
      rw [hoth _ _ (fun ⟨_, e2, e3⟩ => e ⟨e2, e3⟩)]
      exact (h.room j hj).1
  · rw [putRow_frozen]
    show (putRow w H.eb (H.ey + (i * 18 + j0)) vs).cell? ⟨H.eb, H.ey + (s * 18 + q), none⟩ = some v ∧ w.frozen? ⟨H.eb, H.ey + (s * 18 + q), none⟩ = false
    have hq18 : q < 18 := by
      have := (List.getElem?_eq_some_iff.1 hq).1
      simpa [Ent.vlen] using this
    have hroom := ok.inD hs hq18
    refine ⟨?_, (h.room (s * 18 + q) (by omega)).2⟩
    by_cases e : s = i
    · subst e
      simp only [updA, if_true] at hq
      rw [he] at hq
      have hl : ((H.f s).vals.take j0).length = j0 := by rw [List.length_take, Ent.vlen]; omega
      by_cases e1 : q < j0
      · rw [List.append_assoc, List.getElem?_append_left (by omega), List.getElem?_take, if_pos e1] at hq
        rw [hoth _ _ (fun ⟨_, e2, e3⟩ => by omega)]
        exact ((h.ents s hs).2 q v hq).1
      · by_cases e2 : q < j0 + vs.length
        · rw [List.append_assoc, List.getElem?_append_right (by omega), hl, List.getElem?_append_left (by omega)] at hq
          have := putRow_same H.eb vs (H.ey + (s * 18 + j0)) w hself _ v hq
          rwa [show H.ey + (s * 18 + j0) + (q - j0) = H.ey + (s * 18 + q) by omega] at this
        · rw [List.getElem?_append_right (by rw [List.length_append, hl]; omega), List.length_append, hl, List.getElem?_drop, show j0 + vs.length + (q - (j0 + vs.length)) = q by omega] at hq
          rw [hoth _ _ (fun ⟨_, e3, e4⟩ => by omega)]
          exact ((h.ents s hs).2 q v hq).1
    · simp only [updA, e, if_false] at hq
      rw [hoth _ _ (fun ⟨_, e3, e4⟩ => by
        have := idx_apart (sz := 18) e hq18
        omega)]
      exact ((h.ents s hs).2 q v hq).1

/-- what lies in memory stays, if nothing that was there turns -/
theorem HistAt.stays {H : Hist} {w w' : World} (h : HistAt H w) (ok : H.Ok) (hc : Chg (fun _ _ => False) w w') : HistAt H w' := HistAt.loc ok w w' (fun k o hd => by
  obtain ⟨u, hu⟩ := Option.isSome_iff_exists.1 (h.there k o hd)
  rw [hu, cell_of_chg hc (by simp) hu, frozen_of_chg hc o (by rw [hu]; rfl)]
  exact ⟨rfl, rfl⟩) hc.size h

end Go.Proofs.Ytcfghkiokdbhjaa
