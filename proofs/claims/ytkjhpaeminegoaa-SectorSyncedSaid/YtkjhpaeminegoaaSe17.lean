/- The sector's functions: a torn write, told plainly. -/
import Derived.Test.YtkjhpaeminegoaaSe16

namespace Go.Proofs.Ytkjhpaeminegoaa
open Go.Eng

/-- the front of what waited, the back of what stays -/
def tornF (size : Nat) (f s : Nat → Int) (j : Nat) : Int := if j < size / 2 then f j else s j

/-- row i waits with other bytes -/
def Dk.rewr (d : Dk) (i : Nat) (f : Nat → Int) : Dk := { d with ws := updA d.ws i ((d.ws i).1, { (d.ws i).2 with f := f }) }

theorem Dk.rewr_1 (d : Dk) (i : Nat) (f : Nat → Int) (j : Nat) : ((d.rewr i f).ws j).1 = (d.ws j).1 := by
  unfold Dk.rewr updA
  dsimp only
  split
  · rename_i h; subst h; rfl
  · rfl

theorem Dk.rewr_D (d : Dk) (i : Nat) (f : Nat → Int) (j z : Nat) : ((d.rewr i f).ws j).2.D z = (d.ws j).2.D z := by
  unfold Dk.rewr updA
  dsimp only
  split
  · rename_i h; subst h; rfl
  · rfl

theorem Dk.rewr_val (d : Dk) (i : Nat) (f : Nat → Int) (j z : Nat) : ((d.rewr i f).ws j).2.val z = (d.ws j).2.val z := by
  unfold Dk.rewr updA
  dsimp only
  split
  · rename_i h; subst h; rfl
  · rfl

theorem Dk.rewr_ok0 {d : Dk} (ok : d.Ok0) (i : Nat) (f : Nat → Int) : (d.rewr i f).Ok0 := by
  refine ⟨ok.sz, ok.ct, ok.nn, ok.po, fun j hj => ?_, ok.a1, fun j hj k o h => ?_, ok.a3, fun j j' hj hj' hne k o h h' => ?_⟩
  · rw [Dk.rewr_1]; exact ok.wi j hj
  · rw [Dk.rewr_D] at h; exact ok.a2 j hj k o h
  · rw [Dk.rewr_D] at h h'; exact ok.a4 j j' hj hj' hne k o h h'

theorem settleK_congr {kept : Int → Option By} {ws ws' : Nat → Int × By} {i0 : Nat} : ∀ {n : Nat}, (∀ j, j < n → ws (i0 + j) = ws' (i0 + j)) → settleK kept ws i0 n = settleK kept ws' i0 n
  | 0, _ => rfl
  | n + 1, h => by
    simp only [settleK]
    rw [settleK_congr fun j hj => h j (by omega), h n (by omega)]

theorem settleK_rewr (d : Dk) {i : Nat} (f : Nat → Int) {n : Nat} (h : n ≤ i) : settleK d.kept (d.rewr i f).ws 0 n = settleK d.kept d.ws 0 n :=
  settleK_congr fun j hj => updA_ne _ _ (by omega)

/-- the disk's memory but for its own cells and the bytes of row i, the map holding g -/
def Dk.butD (d : Dk) (i : Nat) (k o : Nat) : Prop := k = d.h.m ∨ d.rowD k o ∨ (∃ j, j < d.h.n ∧ j ≠ i ∧ (d.ws j).2.D d.h.size k o) ∨ ∃ q u, d.kept q = some u ∧ u.D d.h.size k o

structure ButAt (d : Dk) (i : Nat) (g : Int → Option Value) (w : World) : Prop where
  nc : d.h.n ≤ d.h.cp
  mp : MapAt d.h.m g w
  rm : ∀ o, o < d.h.cp * 2 → (w.cell? ⟨d.wb, d.wy + o, none⟩).isSome = true ∧ w.frozen? ⟨d.wb, d.wy + o, none⟩ = false
  rw : ∀ j, j < d.h.n → w.cell? ⟨d.wb, d.wy + j * 2, none⟩ = some (.int .i64 (d.ws j).1) ∧ w.cell? ⟨d.wb, d.wy + j * 2 + 1, none⟩ = some ((d.ws j).2.val d.h.size)
  wa : ∀ j, j < d.h.n → j ≠ i → (d.ws j).2.At d.h.size w
  ka : ∀ q u, d.kept q = some u → u.At d.h.size w

theorem RestAt.but {d : Dk} {w : World} (h : RestAt d w) (i : Nat) : ButAt d i d.g w := ⟨h.nc, h.mp, h.rm, h.rw, fun j hj _ => h.wa j hj, h.ka⟩

theorem ButAt.loc {d : Dk} {i : Nat} {g : Int → Option Value} : Eng.Loc (d.butD i) (ButAt d i g) := by
  intro w w' hs _ h
  have cl : ∀ {k o}, d.butD i k o → w'.cell? ⟨k, o, none⟩ = w.cell? ⟨k, o, none⟩ ∧ w'.frozen? ⟨k, o, none⟩ = w.frozen? ⟨k, o, none⟩ := fun hd => (hs _ _ hd).1
  have hn := h.nc
  refine ⟨hn, h.mp.at (hs d.h.m 0 (.inl rfl)).2, fun o ho => ?_, fun j hj => ?_, fun j hj hne => (h.wa j hj hne).at fun o ho => cl (.inr (.inr (.inl ⟨j, hj, hne, ho⟩))), fun q u hq => (h.ka q u hq).at fun o ho => cl (.inr (.inr (.inr ⟨q, u, hq, ho⟩)))⟩
  · obtain ⟨e1, e2⟩ := cl (k := d.wb) (o := d.wy + o) (.inr (.inl ⟨rfl, by omega, by omega⟩))
    rw [e1, e2]; exact h.rm o ho
  · have e1 := (cl (k := d.wb) (o := d.wy + j * 2) (.inr (.inl ⟨rfl, by omega, by omega⟩))).1
    have e2 := (cl (k := d.wb) (o := d.wy + j * 2 + 1) (.inr (.inl ⟨rfl, by omega, by omega⟩))).1
    rw [e1, e2]; exact h.rw j hj

theorem ButAt.there {d : Dk} {i : Nat} {g : Int → Option Value} {w : World} (h : ButAt d i g w) {k o : Nat} (hd : d.butD i k o) : There w k o := by
  rcases hd with rfl | ⟨rfl, h1, h2⟩ | ⟨j, hj, hne, hd⟩ | ⟨q, u, hq, hd⟩
  · exact .inr h.mp.ob
  · have := (h.rm (o - d.wy) (by omega)).1
    rw [show d.wy + (o - d.wy) = o by omega] at this
    exact .inl this
  · exact (h.wa j hj hne).there hd
  · exact (h.ka q u hq).there hd

theorem Dk.butD_rest {d : Dk} {i k o : Nat} (h : d.butD i k o) : d.restD k o := by
  rcases h with h | h | ⟨j, hj, _, h⟩ | h
  · exact .inl h
  · exact .inr (.inl h)
  · exact .inr (.inr (.inl ⟨j, hj, h⟩))
  · exact .inr (.inr (.inr h))

theorem ButAt.turn {d : Dk} {i : Nat} {g g' : Int → Option Value} {w w' : World} (hD : ButAt d i g w) (hc : Chg (fun k _ => k = d.h.m) w w') (hm : MapAt d.h.m g' w') : ButAt d i g' w' := by
  have mapNe : ∀ {k o : Nat}, (w.cell? ⟨k, o, none⟩).isSome = true → ¬ k = d.h.m := fun {k o} hc e => by
    obtain ⟨x, hx⟩ := Option.isSome_iff_exists.1 hD.mp.ob
    rw [e, cell_obj hx] at hc; cases hc
  have byAt : ∀ {u : By}, u.At d.h.size w → u.At d.h.size w' := fun {u} h => h.chg hc fun o ⟨e1, e2, e3⟩ => mapNe (k := u.k) (o := o) (by
    have := h.bytes (o - u.y) (by omega)
    rw [show u.y + (o - u.y) = o from by omega] at this
    rw [this]; rfl)
  refine ⟨hD.nc, hm, fun o ho => ?_, fun j hj => ?_, fun j hj hne => byAt (hD.wa j hj hne), fun q u hq => byAt (hD.ka q u hq)⟩
  · obtain ⟨h1, h2⟩ := hD.rm o ho
    exact ⟨some_of_chg hc _ h1, by rw [frozen_of_chg hc _ h1]; exact h2⟩
  · obtain ⟨h1, h2⟩ := hD.rw j hj
    exact ⟨cell_of_chg hc (mapNe (o := d.wy + j * 2) (by rw [h1]; rfl)) h1, cell_of_chg hc (mapNe (o := d.wy + j * 2 + 1) (by rw [h2]; rfl)) h2⟩

/-- the disk behind all but one of the writes that stay; it is back once that stays, too -/
theorem ButAt.back {d : Dk} {i : Nat} {f : Nat → Int} {w : World} (hi : i < d.h.n) (h : ButAt (d.settled 0 i) i ((d.rewr i f).settled 0 (i + 1)).g w) (hb : ({ (d.ws i).2 with f := f } : By).At d.h.size w) (hh : HdAt d.b d.y d.h.backed w) (hf : HdFree d.b d.y w) :
    DiskAt (((d.rewr i f).settled 0 (i + 1)).withH d.h.backed) w := by
  obtain ⟨e1, e2, e3, e4, e5, e6⟩ := d.h.backed_same
  have hg : (((d.rewr i f).settled 0 (i + 1)).withH d.h.backed).g = ((d.rewr i f).settled 0 (i + 1)).g := by funext q; simp only [Dk.g, Dk.withH, e1]; rfl
  refine ⟨by simp [Dk.withH, e4], hh, hf, ?_, fun o ho => ?_, fun j hj => ?_, fun j hj => ?_, fun q u hq => ?_⟩
  · rw [hg]; show MapAt d.h.backed.m _ _; rw [e3]; exact h.mp
  · simp [Dk.withH, e5] at ho
  · simp [Dk.withH, e4] at hj
  · simp [Dk.withH, e4] at hj
  · show u.At d.h.backed.size w
    rw [e1]
    have hq : settleK d.kept (d.rewr i f).ws 0 (i + 1) q = some u := hq
    simp only [settleK, Nat.zero_add, updK] at hq
    by_cases e : q = ((d.rewr i f).ws i).1
    · rw [if_pos e] at hq
      have : ((d.rewr i f).ws i).2 = ({ (d.ws i).2 with f := f } : By) := by show (updA d.ws i _ i).2 = _; rw [updA_at]
      rw [this] at hq
      rw [← Option.some.inj hq]; exact hb
    · rw [if_neg e, settleK_rewr d f (Nat.le_refl _)] at hq
      exact h.ka q u hq

/-- the bytes of row i lie apart from all else -/
theorem but_apart {d : Dk} (ok : d.Ok) {i : Nat} (hi : i < d.h.n) {w : World} (hR : RestAt (d.settled 0 i) w) {k o : Nat} (hb : (d.settled 0 i).butD i k o) : ¬ (d.ws i).2.D d.h.size k o := fun hu => by
  rcases hb with h | h | ⟨j, hj, hne, h⟩ | ⟨q, u, hq, h⟩
  · have : There w k o := (hR.wa i hi).there hu
    obtain ⟨rfl, h1, h2⟩ := hu
    have := (hR.wa i hi).bytes (o - (d.ws i).2.y) (by show _ < d.h.size; omega)
    rw [show ((d.settled 0 i).ws i).2.y + (o - (d.ws i).2.y) = o by show (d.ws i).2.y + _ = _; omega] at this
    exact hR.mapNe (k := (d.ws i).2.k) (o := o) (by rw [show (d.ws i).2.k = ((d.settled 0 i).ws i).2.k from rfl, this]; rfl) h
  · exact (ok.a2 i hi k o hu).2 h
  · exact ok.a4 j i hj hi hne k o h hu
  · rcases settleK_cases hq with h' | ⟨j, h1, _, rfl⟩
    · exact ok.a5 i q u hi h' k o h hu
    · rw [Nat.zero_add] at h
      exact ok.a4 j i (by omega) hi (by omega) k o h hu

theorem Dk.settled_last {d : Dk} {i : Nat} {f : Nat → Int} : (((d.rewr i f).settled 0 i).settled i 1).kept = ((d.rewr i f).settled 0 (i + 1)).kept := by
  show updK (settleK d.kept (d.rewr i f).ws 0 i) _ _ = _
  simp [Dk.settled, settleK, Dk.rewr]

end Go.Proofs.Ytkjhpaeminegoaa
