/- The sector's functions over a disk without a fuse, told plainly: what stays of each sector, and the writes that wait. -/
import Derived.Test.YtkjhpaeminegoaaSe15

namespace Go.Proofs.Ytkjhpaeminegoaa
open Go.Eng

abbrev Wl := List (Int × (Nat → Int))

/-- what a sector holds behind writes -/
def foldW (st : Int → Nat → Int) (l : Wl) (i : Int) : Nat → Int := l.foldl (fun acc x => if x.1 = i then x.2 else acc) (st i)

theorem foldW_nil (st : Int → Nat → Int) (i : Int) : foldW st [] i = st i := rfl
theorem foldW_snoc (st : Int → Nat → Int) (l : Wl) (x : Int × (Nat → Int)) (i : Int) : foldW st (l ++ [x]) i = if x.1 = i then x.2 else foldW st l i := by
  unfold foldW; rw [List.foldl_append]; rfl
theorem foldW_other {st : Int → Nat → Int} {i : Int} : ∀ {l : Wl}, (∀ x ∈ l, x.1 ≠ i) → foldW st l i = st i := by
  intro l
  unfold foldW
  generalize st i = a
  induction l generalizing a with
  | nil => intro _; rfl
  | cons x l ih =>
    intro h
    rw [List.foldl_cons, if_neg (h x (by simp))]
    exact ih a fun y hy => h y (by simp [hy])

def Dk.log (d : Dk) (n : Nat) : Wl := (List.range n).map fun q => ((d.ws q).1, (d.ws q).2.f)
theorem Dk.log_succ (d : Dk) (n : Nat) : d.log (n + 1) = d.log n ++ [((d.ws n).1, (d.ws n).2.f)] := by simp [Dk.log, List.range_succ]
theorem Dk.log_take (d : Dk) {z n : Nat} (h : z ≤ n) : (d.log n).take z = d.log z := by
  unfold Dk.log
  rw [← List.map_take, List.take_range, Nat.min_eq_left h]
theorem Dk.log_len (d : Dk) (n : Nat) : (d.log n).length = n := by simp [Dk.log]

theorem rdF_fold (d : Dk) (st : Int → Nat → Int) (i : Int) : ∀ n, rdF (st i) d.ws i n = foldW st (d.log n) i
  | 0 => rfl
  | n + 1 => by rw [Dk.log_succ, foldW_snoc, ← rdF_fold d st i n]; rfl

/-- what stays, told of all -/
def stK (kept : Int → Option By) (i : Int) : Nat → Int := match kept i with
  | some u => u.f
  | none => fun _ => 0
theorem Dk.st_eq (d : Dk) (i : Int) : d.st i = stK d.kept i := rfl

theorem stK_upd (kept : Int → Option By) (q : Int) (u : By) (i : Int) : stK (updK kept q u) i = if q = i then u.f else stK kept i := by
  unfold stK updK
  by_cases e : i = q
  · subst e; simp
  · rw [if_neg e, if_neg (fun h => e h.symm)]

theorem stK_settle (d : Dk) (i : Int) : ∀ n, stK (settleK d.kept d.ws 0 n) i = foldW (stK d.kept) (d.log n) i
  | 0 => rfl
  | n + 1 => by
    rw [Dk.log_succ, foldW_snoc, ← stK_settle d i n]
    simp only [settleK, Nat.zero_add]
    rw [stK_upd]

/-- a disk that is on and has no fuse, in memory from block B on -/
structure Plain (B size count : Nat) (st : Int → Nat → Int) (l : Wl) (d : Dk) : Prop where
  ok : d.Ok
  off : d.h.off = false
  fused : d.h.fused = false
  size : d.h.size = size
  count : d.h.count = count
  far : ∀ k o, d.D k o → B ≤ k
  st : ∀ i, stK d.kept i = st i
  log : d.log d.h.n = l

theorem Plain.len {B size count : Nat} {st : Int → Nat → Int} {l : Wl} {d : Dk} (h : Plain B size count st l d) : l.length = d.h.n := by rw [← h.log, Dk.log_len]

theorem Plain.rd {B size count : Nat} {st : Int → Nat → Int} {l : Wl} {d : Dk} (h : Plain B size count st l d) (i : Int) : d.rd i = foldW st l i := by
  unfold Dk.rd
  rw [Dk.st_eq, rdF_fold d (stK d.kept) i, h.log]
  unfold foldW
  rw [h.st i]

theorem plain_new {B b y size count m : Nat} (hs : 64 ≤ size ∧ size ≤ 512) (hc : 1 ≤ count ∧ count ≤ 4096) (hb : B ≤ b) (hm : B ≤ m) : Plain B size count (fun _ _ => 0) [] (newDk b y size count m) :=
  ⟨newDk_ok hs hc, rfl, rfl, rfl, rfl, fun k o h => (newDk_D h).elim (fun e => e ▸ hb) (fun e => e ▸ hm), fun _ => rfl, rfl⟩

theorem DiskAt.away {d : Dk} {w w' : World} {O : Nat → Nat → Prop} (hD : DiskAt d w) (hc : Chg O w w') (hO : ∀ k o, d.D k o → ¬ O k o) : DiskAt d w' := by
  have nc := hD.nc
  refine ⟨nc, hD.hd.chg hc fun o ho => hO _ _ (.inl ho), hD.hf.chg hD.hd hc, hD.mp.at (objAt_chg hc hD.mp.ob fun o => hO _ o (.inr (.inl rfl))), fun o ho => ?_, fun i hi => ?_, fun i hi => (hD.wa i hi).chg hc fun o ho => hO _ _ (.inr (.inr (.inr (.inl ⟨i, hi, ho⟩)))), fun q u hq => (hD.ka q u hq).chg hc fun o ho => hO _ _ (.inr (.inr (.inr (.inr ⟨q, u, hq, ho⟩))))⟩
  · obtain ⟨h1, h2⟩ := hD.rm o ho
    exact ⟨some_of_chg hc _ h1, by rw [frozen_of_chg hc _ h1]; exact h2⟩
  · obtain ⟨h1, h2⟩ := hD.rw i hi
    exact ⟨cell_of_chg hc (hO _ _ (.inr (.inr (.inl ⟨rfl, by omega, by omega⟩)))) h1, cell_of_chg hc (hO _ _ (.inr (.inr (.inl ⟨rfl, by omega, by omega⟩)))) h2⟩

/-- why a write is not taken; 0: it is -/
def wcode (size count : Nat) (i : Int) (n : Nat) : Int := if 0 ≤ i ∧ i < count then (if n = size then 0 else 3) else 6
def wlog (size count : Nat) (l : Wl) (i : Int) (n : Nat) (g : Nat → Int) : Wl := if wcode size count i n = 0 then l ++ [(i, g)] else l

/-- behind a function of a disk that turned it -/
structure To (B size count : Nat) (st : Int → Nat → Int) (l : Wl) (d d' : Dk) (w w' : World) : Prop where
  b : d'.b = d.b
  y : d'.y = d.y
  p : Plain B size count st l d'
  at' : DiskAt d' w'
  chg : Chg d.D w w'
  inD : ∀ k o, d'.D k o → d.D k o ∨ w.heap.size ≤ k

theorem wr_code {B size count : Nat} {st : Int → Nat → Int} {l : Wl} {d : Dk} (h : Plain B size count st l d) (i : Int) (n : Nat) : d.h.wr i n = wcode size count i n := by
  simp only [Hd.wr, wcode, h.off, Bool.false_eq_true, if_false, h.size]
  by_cases hi : 0 ≤ i ∧ i < count
  · rw [if_pos (show d.h.has i by unfold Hd.has; rw [h.count]; exact hi), if_pos hi]
  · rw [if_neg (show ¬ d.h.has i by unfold Hd.has; rw [h.count]; exact hi), if_neg hi]

theorem p_write {B size count : Nat} {st : Int → Nat → Int} {l : Wl} {d : Dk} (h : Plain B size count st l d) (i : Int) (bp : Option Addr) (bn bc : Nat) (g : Nat → Int) (w : World) (hD : DiskAt d w) (hl : l.length < 1000) (hB : B ≤ w.heap.size)
    (hsrc : BytesIn bp bn g w) (hfar : 0 < bn → ∀ b y, bp = some ⟨b, y, none⟩ → b < B) :
    Calls Try.prog 13 #[.pointer (some ⟨d.b, d.y, none⟩), .int .i64 i, .slice bp bn bc] w fun e w' => e = .returned (.int .i64 (wcode size count i bn)) ∧ ∃ d', To B size count st (wlog size count l i bn g) d d' w w' := by
  by_cases hw : wcode size count i bn = 0
  · have hi : 0 ≤ i ∧ i < count := by
      refine Decidable.byContradiction fun hn => ?_
      unfold wcode at hw; rw [if_neg hn] at hw; omega
    have hbn : bn = size := by
      refine Decidable.byContradiction fun hn => ?_
      unfold wcode at hw; rw [if_pos hi, if_neg hn] at hw; omega
    have hsz := h.ok.sz
    rw [h.size] at hsz
    obtain ⟨b, y, rfl, hb⟩ := hsrc (by omega)
    have hbB := hfar (by omega) b y rfl
    have hln := h.len
    subst hbn
    have hh := write_ok d i b y bc g w hD h.ok h.off (by unfold Hd.has; rw [h.count]; exact hi) (by omega) (by rw [h.size]; exact hb) (fun o _ hd => by have := h.far _ _ hd; omega)
    rw [h.size] at hh
    refine hh.mono fun e w' ⟨bt, h1, h2, wb', wy', u, he, k1, k2, k3, k4, k5, k6, k7⟩ => ?_
    have hh1 : h1 = ⟨d.h.size, d.h.count, d.h.m, h2.po, d.h.n + 1, h2.cp, false, d.h.falls, false, d.h.fuse⟩ := by rw [k2, h.off, h.fused, ← h.size]
    have hb1 : h1.burn = (false, h1) := by rw [hh1]; rfl
    rw [hb1] at k1
    obtain ⟨rfl, rfl⟩ := Prod.mk.inj k1
    refine ⟨by rw [he, hw]; rfl, d.wrote h1 wb' wy' i u, rfl, rfl, ⟨k5, ?_, ?_, ?_, ?_, fun k o hk => (k7 k o hk).elim (h.far k o) (fun h => Nat.le_trans hB h), h.st, ?_⟩, k4, k6, k7⟩
    · show h1.off = false; rw [hh1]
    · show h1.fused = false; rw [hh1]
    · show h1.size = bn; rw [hh1]; exact h.size
    · show h1.count = count; rw [hh1]; exact h.count
    · have e : (d.wrote h1 wb' wy' i u).h.n = d.h.n + 1 := by show h1.n = _; rw [hh1]
      unfold wlog
      rw [if_pos hw, e, Dk.log_succ, ← h.log]
      congr 1
      · unfold Dk.log
        exact List.map_congr_left fun q hq => by rw [show (d.wrote h1 wb' wy' i u).ws q = d.ws q from updA_ne _ _ (by have := List.mem_range.1 hq; omega)]
      · rw [show (d.wrote h1 wb' wy' i u).ws d.h.n = (i, u) from updA_at _ _ _, k3]
  · refine (write_err d.b d.y d.h i bp bn bc w hD.hd (by rw [wr_code h]; exact hw)).mono fun e w' ⟨he, hc⟩ => ⟨by rw [he, wr_code h], d, rfl, rfl, ?_, hD.chk hc, hc.mono fun _ _ _ h => h.elim, fun _ _ h => .inl h⟩
    unfold wlog; rw [if_neg hw]; exact h

theorem p_sync {B size count : Nat} {st : Int → Nat → Int} {l : Wl} {d : Dk} (h : Plain B size count st l d) (w : World) (hD : DiskAt d w) :
    Calls Try.prog 14 #[.pointer (some ⟨d.b, d.y, none⟩)] w fun e w' => e = .returned (.int .i64 0) ∧ ∃ d', To B size count (foldW st l) [] d d' w w' := by
  have hb : d.h.burn = (false, d.h) := by unfold Hd.burn; rw [h.fused]; rfl
  refine (sync_ok d w hD h.ok h.off).mono fun e w' ⟨d', k1, he, k2, k3, k4, k5⟩ => ?_
  rw [hb] at k1 he
  have k1 : d' = d.synced := k1
  have hbw : d.withH d.h = d := rfl
  have hd' : d' = (d.settled 0 d.h.n).idle := by rw [k1]; unfold Dk.synced; rw [hb]; rfl
  refine ⟨he, d', by rw [hd']; rfl, by rw [hd']; rfl, ⟨k3, by rw [hd']; exact h.off, by rw [hd']; exact h.fused, by rw [hd']; exact h.size, by rw [hd']; exact h.count, fun k o hk => h.far k o (k5 k o hk), fun i => ?_, by rw [hd']; rfl⟩, k2, k4, fun k o hk => .inl (k5 k o hk)⟩
  rw [hd']
  show stK (settleK d.kept d.ws 0 d.h.n) i = _
  rw [stK_settle, h.log]
  unfold foldW
  rw [h.st i]

theorem p_back {B size count : Nat} {st : Int → Nat → Int} {l : Wl} {d : Dk} (h : Plain B size count st l d) (keep : Int) (torn : Bool) (w : World) (hD : DiskAt d w) (z : Nat) (hz : z = keepN keep l.length) (ht : torn = false ∨ z = 0) :
    Calls Try.prog 16 #[.pointer (some ⟨d.b, d.y, none⟩), .int .i64 keep, .bool torn] w fun e w' => e = .returned (.tuple #[]) ∧ ∃ d', To B size count (foldW st (l.take z)) [] d d' w w' := by
  refine (back_whole d keep torn w hD h.ok z (by rw [hz, h.len]) ht).mono fun e w' ⟨he, k1, k2, k3, k4⟩ => ?_
  have hzn : z ≤ d.h.n := by rw [hz, ← h.len]; exact Nat.min_le_right _ _
  obtain ⟨e1, e2, e3, e4, e5, e6⟩ := d.h.backed_same
  refine ⟨he, (d.settled 0 z).withH d.h.backed, rfl, rfl, ⟨k2, rfl, rfl, e1.trans h.size, e2.trans h.count, fun k o hk => h.far k o (k4 k o hk), fun i => ?_, ?_⟩, k1, k3, fun k o hk => .inl (k4 k o hk)⟩
  · show stK (settleK d.kept d.ws 0 z) i = _
    rw [stK_settle, ← h.log, Dk.log_take d hzn]
    unfold foldW
    rw [h.st i]
  · show Dk.log _ d.h.backed.n = []
    rw [e4]; rfl

theorem p_read {B size count : Nat} {st : Int → Nat → Int} {l : Wl} {d : Dk} (h : Plain B size count st l d) (i : Int) (hi : 0 ≤ i ∧ i < count) (w : World) (hD : DiskAt d w) :
    Calls Try.prog 15 #[.pointer (some ⟨d.b, d.y, none⟩), .int .i64 i] w (ReadRet (foldW st l i) size w) := by
  have := read_ok d i w hD h.ok.toOk0 h.off (by unfold Hd.has; rw [h.count]; exact hi)
  rwa [h.rd i, h.size] at this

end Go.Proofs.Ytkjhpaeminegoaa
