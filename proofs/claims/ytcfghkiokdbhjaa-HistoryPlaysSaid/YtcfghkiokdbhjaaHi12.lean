/- The history's acts: what stays as it is; a clone of the entries as it was. -/
import Derived.Test.YtcfghkiokdbhjaaHi11

namespace Go.Proofs.Ytcfghkiokdbhjaa
open Go.Eng

/-- entries that are over, or lost, stay -/
def StayR (H H' : Hist) : Prop := ∀ k, k < H.n → (H.f k).st ≠ 0 → k < H'.n ∧ H'.f k = H.f k

theorem StayR.same {H H' : Hist} (h : SameH H H') : StayR H H' := fun k hk _ => by rw [h.1, h.2.1]; exact ⟨hk, rfl⟩
theorem StayR.beg {H H' : Hist} {nd k yy c a p r u ii l at' : Int} (h : BegH H H' nd k yy c a p r u ii l at') : StayR H H' := fun k hk _ => by
  obtain ⟨cl, -, -, -, -, e1, e2, -⟩ := h
  rw [e1, e2]
  refine ⟨by omega, ?_⟩
  unfold updA
  rw [if_neg (by omega)]
theorem StayR.und {H H' : Hist} (h : UndH H H') : StayR H H' := fun k hk hst => by
  obtain ⟨j, c, e0, h0, -, -, e1, e2, -⟩ := h
  rw [e1, e2]
  refine ⟨?_, rfl⟩
  rcases Nat.lt_or_ge k j with h | h
  · exact h
  · have : k = j := by omega
    subst this
    exact absurd h0 hst
theorem StayR.end {H H' : Hist} {re ri rs at' : Int} {p : Option Addr} {vn c j : Nat} (h : EndH H H' re ri rs p vn c at' j) : StayR H H' := fun k hk hst => by
  obtain ⟨hj, h0, e1, -, e2⟩ := h
  rw [e1, e2]
  refine ⟨hk, ?_⟩
  unfold updA
  rw [if_neg (fun e => hst (by rw [e]; exact h0))]
theorem StayR.los {H H' : Hist} {nd : Int} (en : H'.n = H.n) (ef : H'.f = lostF nd H.f H.n) : StayR H H' := fun k hk hst => by
  rw [en, ef]
  refine ⟨hk, ?_⟩
  unfold lostF
  rw [if_pos hk]
  unfold lostE
  rw [if_neg (fun h => hst h.2)]

/-- a clone of a history's entries -/
structure Was (H : Hist) (m : Mem) (n c : Nat) (p : Option Addr) (b y : Nat) (f : Nat → Ent) : Prop where
  num : n = H.n
  cap : n ≤ c
  po : ∀ k, k < n → p = some ⟨b, y, none⟩
  row : ∀ k, k < n → ∀ (q : Nat) (v : Value), (f k).vals[q]? = some v → m b (y + (k * 18 + q)) = some v
  like : ∀ k, k < n → (H.f k).like (f k)
  vars : ∀ k, k < n → ∃ g, IntsM (f k).vp (H.f k).vn g m ∧ IntsM (H.f k).vp (H.f k).vn g m ∧ (H.f k).vn ≤ 50

theorem Was.more {H : Hist} {m m' : Mem} {n c : Nat} {p : Option Addr} {b y : Nat} {f : Nat → Ent} (h : Was H m n c p b y f) (hm : ∀ k o v, m k o = some v → m' k o = some v) : Was H m' n c p b y f :=
  ⟨h.num, h.cap, h.po, fun k hk q v hq => hm _ _ _ (h.row k hk q v hq), h.like, fun k hk => by
    obtain ⟨g, h1, h2, h3⟩ := h.vars k hk
    exact ⟨g, h1.more hm, h2.more hm, h3⟩⟩

theorem IntsM.agree {po : Option Addr} {n : Nat} {g g' : Nat → Int} {m : Mem} (h : IntsM po n g m) (h' : IntsM po n g' m) : ∀ j, j < n → g j = g' j := fun j hj => by
  obtain ⟨b, y, h1, h2⟩ := h (by omega)
  obtain ⟨b', y', k1, k2⟩ := h' (by omega)
  rw [h1] at k1; cases k1
  have := (h2 j hj).symm.trans (k2 j hj)
  simpa using this

theorem IntsM.congr {po : Option Addr} {n : Nat} {g g' : Nat → Int} {m : Mem} (h : IntsM po n g m) (hg : ∀ j, j < n → g j = g' j) : IntsM po n g' m := fun hn => by
  obtain ⟨b, y, h1, h2⟩ := h hn
  exact ⟨b, y, h1, fun j hj => by rw [← hg j hj]; exact h2 j hj⟩

theorem HGo.mem {W : World} {hb hy i : Nat} {H : Hist} {m m' : Mem} (h : HGo W hb hy i H m) (hm : ∀ k o v, m k o = some v → m' k o = some v) (hg : ∀ k o, H.D k o → m' k o = none) : HGo W hb hy i H m' := by
  obtain ⟨G, hG⟩ := h.vars
  exact ⟨h.hb, h.hy, h.ok, h.pos, h.n, h.fresh, hg, fun k o v hv => hm _ _ _ (h.old k o v hv), ⟨G, hG.more hm⟩, h.inv⟩

/-- a clone, made just now -/
theorem was_made {H : Hist} {m : Mem} {w1 w' : World} {n c : Nat} {p : Option Addr} {b y : Nat} {f : Nat → Ent} {G : Nat → Nat → Int} (hn : n = H.n) (hcap : n ≤ c) (hpb : 0 < n → p = some ⟨b, y, none⟩ ∧ w1.heap.size ≤ b) (hA : ArrAt b y 18 n (fun i => (f i).vals) w') (hd : ∀ k o, H.D k o → k < w1.heap.size) (hm : ∀ k o, w1.heap.size ≤ k → m k o = none)
    (hG : VarsAt H.n H.f G m) (hl : ∀ i, i < n → (H.f i).like (f i) ∧ IntsIn (f i).vp (H.f i).vn (G i) w' ∧ ∀ a, (f i).vp = some a → 0 < (H.f i).vn → w1.heap.size ≤ a.block) : Was H (Eng.grow m H.D w1 w') n c p b y f := by
  refine ⟨hn, hcap, fun k hk => (hpb (by omega)).1, fun k hk q v hq => ?_, fun k hk => (hl k hk).1, fun k hk => ⟨G k, (hl k hk).2.1.grown (hl k hk).2.2 hd hm, (hG k (by omega)).1.more fun k o v h => grow_old h, (hG k (by omega)).2⟩⟩
  have hbw := (hpb (by omega)).2
  exact grow_new (hm b _ hbw) hbw (fun h => by have := hd _ _ h; omega) ((hA k hk).2 q v hq).1

end Go.Proofs.Ytcfghkiokdbhjaa
