/- SectorSynced: what is read is kept beside the disk. -/
import Derived.Test.YtkjhpaeminegoaaSe21
import Derived.Test.YtkjhpaeminegoaaSe19

namespace Go.Proofs.Ytkjhpaeminegoaa
open Go.Eng

/-- a disk, and c rows of bytes beside it -/
def syD (d : Dk) (us : Nat → By) (c size : Nat) (k o : Nat) : Prop := d.D k o ∨ ∃ j, j < c ∧ (us j).D size k o

structure SyAt (d : Dk) (us : Nat → By) (c size : Nat) (w : World) : Prop where
  d : DiskAt d w
  u : ∀ j, j < c → (us j).At size w

def SyApart (d : Dk) (us : Nat → By) (c size : Nat) : Prop := ∀ k o, d.D k o → ∀ j, j < c → ¬ (us j).D size k o

theorem SyAt.loc {d : Dk} {us : Nat → By} {c size : Nat} : Eng.Loc (syD d us c size) (SyAt d us c size) := fun w w' hs hl h =>
  ⟨DiskAt.loc w w' (fun k o hd => hs k o (.inl hd)) hl h.d, fun j hj => (h.u j hj).at fun o ho => (hs _ _ (.inr ⟨j, hj, ho⟩)).1⟩

theorem SyAt.there {d : Dk} {us : Nat → By} {c size : Nat} {w : World} (h : SyAt d us c size w) {k o : Nat} (hd : syD d us c size k o) : There w k o := by
  rcases hd with hd | ⟨j, hj, hd⟩
  · exact h.d.there hd
  · exact (h.u j hj).there hd

/-- the disk turns -/
theorem To.sy {B size count : Nat} {st : Int → Nat → Int} {l : Wl} {d d' : Dk} {us : Nat → By} {c : Nat} {w w' : World} (h : To B size count st l d d' w w') (hP : SyAt d us c size w) (ha : SyApart d us c size) :
    SyAt d' us c size w' ∧ SyApart d' us c size ∧ Chg (syD d us c size) w w' ∧ ∀ k o, syD d' us c size k o → (syD d us c size k o ∨ w.heap.size ≤ k) ∧ There w' k o := by
  have h1 : SyAt d' us c size w' := ⟨h.at', fun j hj => (hP.u j hj).chg h.chg fun o ho hd => ha _ _ hd j hj ho⟩
  refine ⟨h1, fun k o hc j hj hu => ?_, h.chg.mono fun k o _ h => .inl h, fun k o hk => ⟨?_, h1.there hk⟩⟩
  · rcases h.inD k o hc with h | h
    · exact ha k o h j hj hu
    · have := ((hP.u j hj).there hu).lt; omega
  · rcases hk with hk | hk
    · exact (h.inD k o hk).imp .inl id
    · exact .inl (.inr hk)

/-- one row more is read -/
theorem SyAt.read {d : Dk} {us : Nat → By} {i size : Nat} {g : Nat → Int} {w w' : World} {k y x : Nat} (hP : SyAt d us i size w) (ha : SyApart d us i size) (hk : w.heap.size ≤ k) (hx : size ≤ x) (hb : BytesAt k y size g w')
    (hr : ∀ j, j < x → (w'.cell? ⟨k, y + j, none⟩).isSome = true ∧ w'.frozen? ⟨k, y + j, none⟩ = false) (hc : Chg (fun _ _ => False) w w') :
    SyAt d (updA us i ⟨k, y, x, g⟩) (i + 1) size w' ∧ SyApart d (updA us i ⟨k, y, x, g⟩) (i + 1) size ∧ ∀ p o, syD d (updA us i ⟨k, y, x, g⟩) (i + 1) size p o → (syD d us i size p o ∨ w.heap.size ≤ p) ∧ There w' p o := by
  have h1 : SyAt d (updA us i ⟨k, y, x, g⟩) (i + 1) size w' := ⟨hP.d.chk hc, fun j hj => by
    by_cases e : j = i
    · subst e; rw [updA_at]; exact ⟨hx, hb, fun q hq => (hr q (by omega)).2⟩
    · rw [updA_ne _ _ e]; exact (hP.u j (by omega)).chg hc fun _ _ h => h⟩
  refine ⟨h1, fun p o hd j hj hu => ?_, fun p o hk' => ⟨?_, h1.there hk'⟩⟩
  · by_cases e : j = i
    · subst e; rw [updA_at] at hu
      have := (hP.d.there hd).lt
      have : p = k := hu.1
      omega
    · rw [updA_ne _ _ e] at hu; exact ha p o hd j (by omega) hu
  · rcases hk' with h | ⟨j, hj, h⟩
    · exact .inl (.inl h)
    · by_cases e : j = i
      · subst e; rw [updA_at] at h; exact .inr (by have : p = k := h.1; omega)
      · rw [updA_ne _ _ e] at h; exact .inl (.inr ⟨j, by omega, h⟩)

/-- the rows as a slice's cells -/
def wasL (us : Nat → By) (i size : Nat) : List SV := (List.range i).map fun j => .slv (some ⟨(us j).k, (us j).y, none⟩) size (us j).cp
def wasK : Nat → Option Nat
  | 0 => some 0
  | _ + 1 => none

theorem wasL_len (us : Nat → By) (i size : Nat) : (wasL us i size).length = i := by simp [wasL]

theorem wasL_succ (us : Nat → By) (i size : Nat) (u : By) : wasL us i size ++ [.slv (some ⟨u.k, u.y, none⟩) size u.cp] = wasL (updA us i u) (i + 1) size := by
  unfold wasL
  rw [List.range_succ, List.map_append]
  congr 1
  · exact List.map_congr_left fun q hq => by rw [updA_ne _ _ (by have := List.mem_range.1 hq; omega)]
  · simp only [List.map_cons, List.map_nil, updA_at]

theorem wasL_at {us : Nat → By} {i size j : Nat} (h : j < i) : (wasL us i size)[j]? = some (.slv (some ⟨(us j).k, (us j).y, none⟩) size (us j).cp) := by
  simp [wasL, List.getElem?_range h]

theorem wasL_bd {us : Nat → By} {i size m : Nat} : (wasL us i size).all (bd m) = true := List.all_eq_true.2 fun c hc => by
  obtain ⟨j, _, rfl⟩ := List.mem_map.1 hc
  rfl

/-- what is appended to the rows -/
theorem app_was {rg : List Rg} {te : TI} {us : Nat → By} {i size : Nat} {cs : List SV} {c : SV} (hi : i ≤ 1000) (h1 : te.size = 1) (h2 : te.zero.length = te.size) (h3 : te.bytes ≤ 1000) (hc : c.one = true) (hcs : cs = wasL us i size) (hr : nth rg 0 = some ⟨true, cs, none⟩) :
    ∃ g0, appV rg te (.osl 0 0 i 1 (wasK i)) [c] 1 = some (.osl rg.length 0 (i + 1) 1 none, rg.set 0 g0 ++ [⟨true, cs ++ [c], none⟩]) := by
  have hl : cs.length = i := by rw [hcs, wasL_len]
  have h4 : (2 * (i + 1) + 256) * te.bytes ≤ (2 * (i + 1) + 256) * 1000 := Nat.mul_le_mul_left _ h3
  have h5 : (2 * (i + 1) + 256) * te.bytes ≤ 281474976710656 := Nat.le_trans h4 (by omega)
  have hok : appV.appOk te [c] i 1 = true := appOk_ok (by omega) h2 (by rw [h1]; rfl) (by simp [hc]) h5 (by omega)
  cases i with
  | zero =>
    have e : cs = [] := List.eq_nil_of_length_eq_zero hl
    have := appV_new (te := te) (rg := rg) (r := 0) (m := 1) (new := [c]) hr (by decide) hok
    rw [h1] at this
    refine ⟨⟨true, cs, none⟩, ?_⟩
    rw [show wasK 0 = some 0 from rfl, this, e, list_set_same _ _ _ (by rw [← nth_eq, hr, e])]
    rfl
  | succ n =>
    have := appV_hid (te := te) (rg := rg) (r := 0) (n := n + 1) (m := 1) (cs := cs) (new := [c]) hr (by rw [hl, h1]; omega) (by decide) hok
    rw [h1] at this
    exact ⟨⟨false, [], none⟩, this⟩

/-- what a row of reads has come to -/
structure RdG (B size count : Nat) (d : Dk) (st : Int → Nat → Int) where
  (i : Nat) (us : Nat → By)
  hi : i ≤ count
  ap : SyApart d us i size
  far : ∀ j, j < i → B ≤ (us j).k
  f : ∀ j, j < i → (us j).f = st (j : Int)

/-- a disk that is written -/
structure WrG (B size count n db dy : Nat) (st : Int → Nat → Int) (f : Nat → SStep) where
  (i : Nat) (d : Dk) (l : Wl)
  hi : i ≤ n
  hl : l.length ≤ i
  pd : Plain B size count st l d
  db' : d.b = db
  dy' : d.y = dy
  of : ∀ x ∈ l, ∃ q, q < i ∧ x.1 = (f q).i

theorem wlog_of {size count : Nat} {l : Wl} {e : Int} {n : Nat} {g : Nat → Int} {f : Nat → SStep} {i : Nat} (h : ∀ x ∈ l, ∃ q, q < i ∧ x.1 = (f q).i) (he : e = (f i).i) : ∀ x ∈ wlog size count l e n g, ∃ q, q < i + 1 ∧ x.1 = (f q).i := by
  intro x hx
  unfold wlog at hx
  split at hx
  · rcases List.mem_append.1 hx with h' | h'
    · obtain ⟨q, h1, h2⟩ := h x h'
      exact ⟨q, by omega, h2⟩
    · simp only [List.mem_singleton] at h'
      subst h'
      exact ⟨i, by omega, he⟩
  · obtain ⟨q, h1, h2⟩ := h x hx
    exact ⟨q, by omega, h2⟩

/-- a disk that is written, rows beside it -/
structure WrS (B size count n db dy : Nat) (st : Int → Nat → Int) (f : Nat → SStep) (us : Nat → By) extends WrG B size count n db dy st f where
  ap : SyApart d us count size

end Go.Proofs.Ytkjhpaeminegoaa
