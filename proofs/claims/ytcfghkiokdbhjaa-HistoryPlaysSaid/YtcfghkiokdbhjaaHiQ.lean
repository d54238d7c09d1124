/- The history's acts, one behind the other: what a walk over them keeps. -/
import Derived.Test.YtcfghkiokdbhjaaHiP

namespace Go.Proofs.Ytcfghkiokdbhjaa
open Go.Eng

/-- the acts, none of them great -/
def HActs50 (po : Option Addr) (n : Nat) (W : World) : Prop := ∀ i, i < n → ∃ (b x z : Nat) (e : HAct), po = some ⟨b, x, none⟩ ∧ z = x + i * 18 ∧ 0 ≤ e.c ∧
  (∀ (j : Nat) (v : Value), e.vals[j]? = some v → W.cell? ⟨b, z + j, none⟩ = some v) ∧ (∃ g, IntsIn e.vp e.vn g W) ∧ e.vn ≤ 50

theorem acts50 {po : Option Addr} {n : Nat} {W w : World} (hl : HActsAt po n W) (him : ∀ k o v, W.cell? ⟨k, o, none⟩ = some v → w.cell? ⟨k, o, none⟩ = some v) (h : HActs50 po n w) : HActs50 po n W := fun i hi => by
  obtain ⟨b, x, z, e, h1, h2, h3, h4, h5⟩ := hl i hi
  obtain ⟨b', x', z', e', k1, k2, k3, k4, k5, k6⟩ := h i hi
  rw [h1] at k1; cases k1
  subst h2; subst k2
  refine ⟨b, x, _, e, h1, rfl, h3, h4, h5, ?_⟩
  have e1 := him _ _ _ (h4 17 (.slice e.vp e.vn e.vc) rfl)
  have e2 := k4 17 (.slice e'.vp e'.vn e'.vc) rfl
  rw [e1] at e2
  simp only [Option.some.injEq, Value.slice.injEq] at e2
  rw [e2.2.1]; exact k6

/-- a walk under way: i acts are done -/
structure HGo (W : World) (hb hy i : Nat) (H : Hist) (m : Mem) : Prop where
  hb : H.hb = hb
  hy : H.hy = hy
  ok : H.Ok
  pos : H.nl = false → 0 < H.cp
  n : H.n ≤ i
  fresh : ∀ k o, H.D k o → W.heap.size ≤ k
  out : ∀ k o, H.D k o → m k o = none
  old : ∀ k o v, W.cell? ⟨k, o, none⟩ = some v → m k o = some v
  vars : ∃ G, VarsAt H.n H.f G m
  inv : HInv H.n H.f H.q

/-- behind a call that did an act -/
theorem HTo.goes {E : Ctx} {H H' : Hist} {N : Nums} {k : List It} {s : St} {d : Option Nat} {v : Value} {w w' : World} (h : HTo H H' w w') (hN : E.N0.le N) (hS : Sat E.toEnv N s.rg w) (hD : E.D = H.D) (hf : ∀ k o, H.D k o → E.W.heap.size ≤ k) (ho : ∀ k o, H.D k o → E.im k o = none)
    (hrg : ∀ g ∈ s.rg, g.own = true ∨ g.cells = []) {r : SV} (hr : r.den N = some v) {f' : Fr} (hp : putO E.n s.fr d (.val r) = some f')
    (hx : (∀ k o, H'.D k o → Eng.grow E.im H'.D w w' k o = none) → (∀ k o, w.heap.size ≤ k → E.im k o = none) → X { E with D := H'.D, R := HistAt H', im := Eng.grow E.im H'.D w w' } k ⟨f', s.rg⟩) : Goes E N k s.fr d v w' :=
  Goes.grow H'.D (HistAt H') hN hS (by rw [hD]; exact h.chg) (fun k o hk => .inl (hf k o (hD ▸ hk))) (fun k o hk => ho k o (hD ▸ hk)) hrg (fun k o hk => ⟨by rw [hD]; exact h.inD k o hk, h.at'.there k o hk⟩) (HistAt.loc h.ok) h.at' hr hp hx

section
variable {W w w' : World} {hb hy i : Nat} {H H' : Hist} {m m' : Mem}

theorem HGo.step (h : HGo W hb hy i H m) (t : HTo H H' w w') (hsz : W.heap.size ≤ w.heap.size) (hm : ∀ k o v, m k o = some v → m' k o = some v) (hg : ∀ k o, H'.D k o → m' k o = none) (hn : H'.n ≤ i + 1) (hv : ∃ G, VarsAt H'.n H'.f G m') (hi : HInv H'.n H'.f H'.q) : HGo W hb hy (i + 1) H' m' :=
  ⟨t.hb.trans h.hb, t.hy.trans h.hy, t.ok, t.pos, hn, fun k o hk => by
    rcases t.inD k o hk with h1 | h1
    · exact h.fresh k o h1
    · omega, hg, fun k o v hv => hm _ _ _ (h.old k o v hv), hv, hi⟩

theorem HGo.same (h : HGo W hb hy i H m) (t : HTo H H' w w') (hsz : W.heap.size ≤ w.heap.size) (hm : ∀ k o v, m k o = some v → m' k o = some v) (hg : ∀ k o, H'.D k o → m' k o = none) (hs : SameH H H') : HGo W hb hy (i + 1) H' m' := by
  obtain ⟨G, hG⟩ := h.vars
  have hn := h.n
  refine h.step t hsz hm hg (by rw [hs.1]; omega) ⟨G, ?_⟩ (h.inv.same hs)
  rw [hs.1, hs.2.1]; exact hG.more hm

theorem HGo.beg (h : HGo W hb hy i H m) (t : HTo H H' w w') (hsz : W.heap.size ≤ w.heap.size) (hm : ∀ k o v, m k o = some v → m' k o = some v) (hg : ∀ k o, H'.D k o → m' k o = none) (hi : H.n ≤ 1000) {nd k yy c a p r u ii l at' : Int} (hs : BegH H H' nd k yy c a p r u ii l at') : HGo W hb hy (i + 1) H' m' := by
  obtain ⟨G, hG⟩ := h.vars
  have hn := h.n
  have hinv := h.inv.beg hi hs
  obtain ⟨cl, -, -, -, -, e1, e2, -⟩ := hs
  refine h.step t hsz hm hg (by omega) ⟨G, fun j hj => ?_⟩ hinv
  rw [e2]
  unfold updA
  by_cases e : j = H.n
  · rw [if_pos e]; exact ⟨fun h0 => absurd h0 (Nat.lt_irrefl 0), Nat.zero_le _⟩
  · rw [if_neg e]; exact ⟨(hG j (by omega)).1.more hm, (hG j (by omega)).2⟩

theorem HGo.und (h : HGo W hb hy i H m) (t : HTo H H' w w') (hsz : W.heap.size ≤ w.heap.size) (hm : ∀ k o v, m k o = some v → m' k o = some v) (hg : ∀ k o, H'.D k o → m' k o = none) (hi : H.n ≤ 1000) (hs : UndH H H') : HGo W hb hy (i + 1) H' m' := by
  obtain ⟨G, hG⟩ := h.vars
  have hn := h.n
  have hinv := h.inv.und hi hs
  obtain ⟨j, c, e0, -, -, -, e1, e2, -⟩ := hs
  refine h.step t hsz hm hg (by omega) ⟨G, fun q hq => ?_⟩ hinv
  rw [e2]
  exact hG.more hm q (by omega)

theorem HGo.end (h : HGo W hb hy i H m) (t : HTo H H' w w') (hsz : W.heap.size ≤ w.heap.size) (hm : ∀ k o v, m k o = some v → m' k o = some v) (hg : ∀ k o, H'.D k o → m' k o = none) {re ri rs at' : Int} {p : Option Addr} {vn c j : Nat} {g : Nat → Int} (hs : EndH H H' re ri rs p vn c at' j) (hp : IntsM p vn g m') (hvn : vn ≤ 50) : HGo W hb hy (i + 1) H' m' := by
  obtain ⟨G, hG⟩ := h.vars
  have hn := h.n
  have hinv := h.inv.end hs
  obtain ⟨hj, -, e1, -, e2⟩ := hs
  refine h.step t hsz hm hg (by omega) ⟨updA G j g, fun q hq => ?_⟩ hinv
  rw [e2]
  unfold updA
  by_cases e : q = j
  · subst e; rw [if_pos rfl, if_pos rfl]; exact ⟨hp, hvn⟩
  · rw [if_neg e, if_neg e]; exact hG.more hm q (by omega)

theorem HGo.los (h : HGo W hb hy i H m) (t : HTo H H' w w') (hsz : W.heap.size ≤ w.heap.size) (hm : ∀ k o v, m k o = some v → m' k o = some v) (hg : ∀ k o, H'.D k o → m' k o = none) {nd : Int} (en : H'.n = H.n) (eq : H'.q = H.q) (ef : H'.f = lostF nd H.f H.n) : HGo W hb hy (i + 1) H' m' := by
  obtain ⟨G, hG⟩ := h.vars
  have hn := h.n
  refine h.step t hsz hm hg (by omega) ⟨G, fun q hq => ?_⟩ (h.inv.los en eq ef)
  rw [ef]
  unfold lostF
  rw [if_pos (by omega)]
  obtain ⟨-, -, -, h4, h5⟩ := lostE_core nd (H.f q)
  rw [h4, h5]
  exact hG.more hm q (by omega)

end

/-- where an act's numbers lie, no history lies -/
theorem HGo.far {W w : World} {hb hy i : Nat} {H : Hist} {m : Mem} (h : HGo W hb hy i H m) (hw : HistAt H w) {po : Option Addr} {n : Nat} {g : Nat → Int} (hI : IntsIn po n g W) : ∀ a, po = some a → 0 < n → a.block ≠ H.hb ∧ (0 < H.n → a.block ≠ H.eb) := fun a ha hn => by
  obtain ⟨b, y, h1, h2⟩ := hI hn
  rw [h1] at ha; cases ha
  have hlt : b < W.heap.size := World.block_lt_of_cell? _ _ (h2 0 hn)
  refine ⟨fun e => ?_, fun h0 e => ?_⟩
  · have := h.fresh H.hb H.hy (.inl ⟨rfl, Nat.le_refl _, by omega⟩)
    have e : b = H.hb := e
    omega
  · have hle := h.ok.le
    have := h.fresh H.eb H.ey (.inr ⟨rfl, Nat.le_refl _, by omega⟩)
    have e : b = H.eb := e
    omega

end Go.Proofs.Ytcfghkiokdbhjaa
