/- The history's acts: what stays true of entries. -/
import Derived.Test.YtcfghkiokdbhjaaHi10

namespace Go.Proofs.Ytcfghkiokdbhjaa
open Go.Eng

/-- how many entries a client has -/
def cnt (f : Nat → Ent) (c : Int) : Nat → Nat
  | 0 => 0
  | n + 1 => cnt f c n + (if (f n).c = c then 1 else 0)

/-- .. open ones -/
def opn (f : Nat → Ent) (c : Int) : Nat → Nat
  | 0 => 0
  | n + 1 => opn f c n + (if (f n).c = c ∧ (f n).st = 0 then 1 else 0)

theorem cnt_le (f : Nat → Ent) (c : Int) : ∀ n, cnt f c n ≤ n
  | 0 => Nat.le_refl _
  | n + 1 => by have := cnt_le f c n; unfold cnt; split <;> omega

theorem cnt_same {f g : Nat → Ent} {c : Int} : ∀ {n : Nat}, (∀ j, j < n → (f j).c = (g j).c) → cnt f c n = cnt g c n
  | 0, _ => rfl
  | n + 1, h => by unfold cnt; rw [cnt_same (n := n) (fun j hj => h j (by omega)), h n (by omega)]

theorem opn_same {f g : Nat → Ent} {c : Int} : ∀ {n : Nat}, (∀ j, j < n → (f j).c = (g j).c ∧ (f j).st = (g j).st) → opn f c n = opn g c n
  | 0, _ => rfl
  | n + 1, h => by unfold opn; rw [opn_same (n := n) (fun j hj => h j (by omega)), (h n (by omega)).1, (h n (by omega)).2]

theorem opn_pos {f : Nat → Ent} {c : Int} : ∀ {n : Nat}, 0 < opn f c n → ∃ j, j < n ∧ (f j).c = c ∧ (f j).st = 0
  | 0, h => by simp [opn] at h
  | n + 1, h => by
    unfold opn at h
    by_cases e : (f n).c = c ∧ (f n).st = 0
    · exact ⟨n, by omega, e⟩
    · rw [if_neg e] at h
      obtain ⟨j, h1, h2⟩ := opn_pos (n := n) (by omega)
      exact ⟨j, by omega, h2⟩

structure HInv (n : Nat) (f : Nat → Ent) (q : Nat → Int) : Prop where
  cl : ∀ i, i < n → ∃ c : Nat, (f i).c = c ∧ 1 ≤ c ∧ c < 9
  num : ∀ c : Nat, c < 9 → q c = (cnt f c n : Nat)
  seq : ∀ i, i < n → (f i).s = (cnt f (f i).c i : Nat) + 1
  one : ∀ i j, i < j → j < n → (f i).st = 0 → (f j).st = 0 → (f i).c ≠ (f j).c

theorem HInv.zero (f : Nat → Ent) : HInv 0 f (fun _ => 0) := ⟨fun i hi => absurd hi (Nat.not_lt_zero _), fun _ _ => rfl, fun i hi => absurd hi (Nat.not_lt_zero _), fun _ j _ hj => absurd hj (Nat.not_lt_zero _)⟩

theorem HInv.opn_at {n : Nat} {f : Nat → Ent} {q : Nat → Int} (h : HInv n f q) {i : Nat} (hi : i < n) (hst : (f i).st = 0) : opn f (f i).c i = 0 := by
  rcases Nat.eq_zero_or_pos (opn f (f i).c i) with h0 | h0
  · exact h0
  · obtain ⟨j, h1, h2, h3⟩ := opn_pos h0
    exact absurd h2 (h.one j i h1 hi h3 hst)

theorem HInv.opn_le {n : Nat} {f : Nat → Ent} {q : Nat → Int} (h : HInv n f q) (c : Int) : ∀ i, i ≤ n → opn f c i ≤ 1
  | 0, _ => by simp [opn]
  | i + 1, hi => by
    unfold opn
    by_cases e : (f i).c = c ∧ (f i).st = 0
    · rw [if_pos e]
      have := h.opn_at (i := i) (by omega) e.2
      rw [e.1] at this
      omega
    · rw [if_neg e]
      have := h.opn_le c i (by omega)
      omega

theorem HInv.of {n : Nat} {f f' : Nat → Ent} {q : Nat → Int} (h : HInv n f q) (hf : ∀ i, i < n → (f' i).c = (f i).c ∧ (f' i).s = (f i).s ∧ ((f' i).st = 0 → (f i).st = 0)) : HInv n f' q := by
  have hc : ∀ i, i ≤ n → ∀ c, cnt f' c i = cnt f c i := fun i hi c => cnt_same fun j hj => (hf j (by omega)).1
  refine ⟨fun i hi => by rw [(hf i hi).1]; exact h.cl i hi, fun c hc9 => by rw [hc n (Nat.le_refl _)]; exact h.num c hc9, fun i hi => ?_, fun i j hij hj h1 h2 => ?_⟩
  · rw [(hf i hi).1, (hf i hi).2.1, hc i (by omega)]; exact h.seq i hi
  · rw [(hf i (by omega)).1, (hf j hj).1]
    exact h.one i j hij hj ((hf i (by omega)).2.2 h1) ((hf j hj).2.2 h2)

theorem wrapU (x : Nat) (h : x < 1000000) : IntKind.u64.wrap (x : Int) = x := by
  simp [IntKind.wrap, IntKind.bits, IntKind.signed]; omega

theorem HInv.beg {H H' : Hist} {nd k yy c a p r u ii l at' : Int} (h : HInv H.n H.f H.q) (hn : H.n ≤ 1000) (hb : BegH H H' nd k yy c a p r u ii l at') : HInv H'.n H'.f H'.q := by
  obtain ⟨cl, hc, h1, h9, hno, en, ef, eq⟩ := hb
  obtain ⟨n, f, q, hq⟩ : ∃ n f q, H.n = n ∧ H.f = f ∧ H.q = q := ⟨_, _, _, rfl, rfl, rfl⟩
  obtain ⟨e1, e2, e3⟩ := hq
  rw [e1, e2, e3] at h
  rw [e1] at hn en ef hno
  rw [e2] at ef hno
  rw [e3] at ef eq
  have hw : IntKind.u64.wrap (q cl + 1) = ((cnt f cl n + 1 : Nat) : Int) := by
    rw [h.num cl h9]
    have := cnt_le f cl n
    exact wrapU (cnt f cl n + 1) (by omega)
  rw [hw] at ef eq
  have hlt : ∀ i, i < n → H'.f i = f i := fun i hi => by rw [ef]; unfold updA; rw [if_neg (by omega)]
  have hat : H'.f n = Ent.new nd k yy cl ((cnt f cl n + 1 : Nat) : Int) a p r u ii l at' := by rw [ef]; unfold updA; rw [if_pos rfl]
  have hcn : ∀ i, i ≤ n → ∀ c, cnt H'.f c i = cnt f c i := fun i hi c => cnt_same fun j hj => by rw [hlt j (by omega)]
  rw [en]
  refine ⟨fun i hi => ?_, fun c hc9 => ?_, fun i hi => ?_, fun i j hij hj k1 k2 => ?_⟩
  · by_cases e : i = n
    · subst e; rw [hat]; exact ⟨cl, rfl, h1, h9⟩
    · rw [hlt i (by omega)]; exact h.cl i (by omega)
  · rw [eq]
    show updA q cl _ c = ((cnt H'.f c n + (if (H'.f n).c = c then 1 else 0) : Nat) : Int)
    unfold updA
    rw [hcn n (Nat.le_refl _), hat]
    by_cases e : c = cl
    · subst e; rw [if_pos rfl, if_pos (by rfl)]
    · rw [if_neg e, if_neg (by show ¬ ((cl : Int) = (c : Int)); omega)]; exact h.num c hc9
  · by_cases e : i = n
    · subst e
      rw [hat, hcn i (Nat.le_refl _)]
      show ((cnt f cl i + 1 : Nat) : Int) = (cnt f (cl : Int) i : Nat) + 1
      omega
    · rw [hlt i (by omega), hcn i (by omega)]; exact h.seq i (by omega)
  · by_cases e : j = n
    · subst e
      rw [hlt i (by omega)] at k1 ⊢
      rw [hat]
      intro hcc
      exact hno i hij ⟨hcc.trans hc.symm, k1⟩
    · rw [hlt i (by omega)] at k1 ⊢
      rw [hlt j (by omega)] at k2 ⊢
      exact h.one i j hij (by omega) k1 k2

theorem HInv.und {H H' : Hist} (h : HInv H.n H.f H.q) (hn : H.n ≤ 1000) (hb : UndH H H') : HInv H'.n H'.f H'.q := by
  obtain ⟨j, c, hj, hst, hc, h9, en, ef, eq⟩ := hb
  rw [hj] at h hn
  rw [en, ef, eq]
  refine ⟨fun i hi => h.cl i (by omega), fun c' hc9 => ?_, fun i hi => h.seq i (by omega), fun i k hik hk => h.one i k hik (by omega)⟩
  have hq : H.q c' = ((cnt H.f c' j + (if (H.f j).c = c' then 1 else 0) : Nat) : Int) := h.num c' hc9
  rw [hc] at hq
  unfold updA
  by_cases e : c' = c
  · subst e
    rw [if_pos rfl] at hq ⊢
    rw [hq]
    have := cnt_le H.f c' j
    have := wrapU (cnt H.f c' j) (by omega)
    rw [← this]
    congr 1
    omega
  · rw [if_neg (show ¬ ((c : Int) = (c' : Int)) by omega)] at hq
    rw [if_neg e, hq]; omega

theorem HInv.end {H H' : Hist} {re ri rs at' : Int} {p : Option Addr} {vn c j : Nat} (h : HInv H.n H.f H.q) (hb : EndH H H' re ri rs p vn c at' j) : HInv H'.n H'.f H'.q := by
  obtain ⟨hj, hst, en, eq, ef⟩ := hb
  rw [en, eq]
  refine h.of fun i hi => ?_
  rw [ef]
  unfold updA
  by_cases e : i = j
  · subst e; rw [if_pos rfl]; exact ⟨rfl, rfl, fun h => by simp at h⟩
  · rw [if_neg e]; exact ⟨rfl, rfl, fun h => h⟩

theorem lostE_core (nd : Int) (e : Ent) : (lostE nd e).c = e.c ∧ (lostE nd e).s = e.s ∧ ((lostE nd e).st = 0 → e.st = 0) ∧ (lostE nd e).vp = e.vp ∧ (lostE nd e).vn = e.vn := by
  unfold lostE
  split
  · exact ⟨rfl, rfl, fun h => by simp at h, rfl, rfl⟩
  · exact ⟨rfl, rfl, fun h => h, rfl, rfl⟩

theorem HInv.los {H H' : Hist} {nd : Int} (h : HInv H.n H.f H.q) (en : H'.n = H.n) (eq : H'.q = H.q) (ef : H'.f = lostF nd H.f H.n) : HInv H'.n H'.f H'.q := by
  rw [en, eq]
  refine h.of fun i hi => ?_
  rw [ef]
  unfold lostF
  rw [if_pos hi]
  obtain ⟨h1, h2, h3, _⟩ := lostE_core nd (H.f i)
  exact ⟨h1, h2, h3⟩

theorem HInv.same {H H' : Hist} (h : HInv H.n H.f H.q) (hs : SameH H H') : HInv H'.n H'.f H'.q := by
  obtain ⟨e1, e2, e3⟩ := hs
  rw [e1, e2, e3]; exact h

/-- where entries' numbers lie, behind an act -/
def VarsAt (n : Nat) (f : Nat → Ent) (G : Nat → Nat → Int) (m : Mem) : Prop := ∀ i, i < n → IntsM (f i).vp (f i).vn (G i) m ∧ (f i).vn ≤ 50

theorem VarsAt.more {n : Nat} {f : Nat → Ent} {G : Nat → Nat → Int} {m m' : Mem} (h : VarsAt n f G m) (hm : ∀ k o v, m k o = some v → m' k o = some v) : VarsAt n f G m' := fun i hi => ⟨(h i hi).1.more hm, (h i hi).2⟩

end Go.Proofs.Ytcfghkiokdbhjaa
