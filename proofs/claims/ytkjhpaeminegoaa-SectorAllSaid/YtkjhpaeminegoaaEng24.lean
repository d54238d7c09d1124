/- The symbolic executor, part 24: a call that writes a region. -/
import Derived.Test.YtkjhpaeminegoaaEng23

namespace Go.Eng

/-- behind a call that turned a region's cells, and nothing else that was there -/
theorem Goes.cells {E : Ctx} {N : Nums} {k : List It} {s : St} {d : Option Nat} {v : Value} {w w' : World} {r : Nat} {g : Rg} {p : Num} (hN : E.N0.le N) (h : Sat E.toEnv N s.rg w) (hg : s.rg[r]? = some g) (hp : N[r]? = some p) (ho : g.own = true)
    (hc : Chg (fun k o => k = p.b ∧ p.o ≤ o ∧ o < p.o + p.x) w w') (cs' : List SV) (hl : cs'.length ≤ p.x) (hcs : ∀ (j : Nat) (c : SV), cs'[j]? = some c → ∃ v, c.den N = some v ∧ w'.cell? ⟨p.b, p.o + j, none⟩ = some v)
    {rv : SV} (hr : rv.den N = some v) {f' : Fr} (hpo : putO E.n s.fr d (.val rv) = some f') (hx : X E k ⟨f', s.rg.set r { g with cells := cs' }⟩) : Goes E N k s.fr d v w' := by
  refine ⟨E, N, rv, _, f', rfl, rfl, rfl, rfl, Nums.le.refl N, hN, ?_, hr, hpo, hx⟩
  have hrl : r < s.rg.length := (List.getElem?_eq_some_iff.1 hg).1
  have hnd : ∀ k o, (k = p.b ∧ p.o ≤ o ∧ o < p.o + p.x) → ¬ E.D k o := fun k o ⟨e1, e2, e3⟩ hd => by
    subst e1
    have := h.dd r g p hg hp ho (o - p.o) (by omega)
    rw [show p.o + (o - p.o) = o by omega] at this
    exact this hd
  have keepD : ∀ k o, E.D k o → (w'.cell? ⟨k, o, none⟩ = w.cell? ⟨k, o, none⟩ ∧ w'.frozen? ⟨k, o, none⟩ = w.frozen? ⟨k, o, none⟩) ∧ objAt w' k = objAt w k := fun k o hd => by
    have hlt := (h.dlt k o hd).lt
    obtain ⟨x, hx⟩ : ∃ x, w.heap[k]? = some x := ⟨_, Array.getElem?_eq_getElem hlt⟩
    cases x with
    | cells c e f =>
      obtain ⟨c', h1, h2, h3⟩ := hc.cells k c e f hx
      have h4 := h3 o (fun e => hnd k o e hd)
      refine ⟨⟨by simp [World.cell?, hx, h1, h4], by simp [World.frozen?, hx, h1]⟩, by simp [objAt, hx, h1]⟩
    | _ =>
      have hne : ∀ o', ¬ (k = p.b ∧ p.o ≤ o' ∧ o' < p.o + p.x) := fun o' ⟨e1, e2, e3⟩ => by
        have := (h.room r g p hg hp ho (o' - p.o) (by omega)).1
        rw [← e1] at this
        simp [World.cell?, hx] at this
      have e := hc.same k hlt hne
      exact ⟨⟨by unfold World.cell?; simp only [e], by unfold World.frozen?; simp only [e]⟩, objAt_same e⟩
  refine h.after (m' := E.im) (D' := E.D) (R' := E.R) hc (fun k o _ ⟨e1, e2, e3⟩ => .inl ⟨r, g, p, hg, hp, ho, e1, e2, e3⟩) ⟨fun _ _ _ h => h, fun k o v hv => ?_, fun _ _ _ h => .inl h⟩
    (fun k o hd => ⟨.inl hd, (h.dlt k o hd).of (fun hs => by rw [(keepD k o hd).1.1]; exact hs) (keepD k o hd).2⟩) h.loc (h.loc w w' keepD hc.size h.res) (by simp) (fun q x x' pq hq1 hq2 hpq => ?_)
  · refine cell_of_chg hc (fun ⟨e1, e2, e3⟩ => ?_) (h.imm k o v hv)
    have := h.imd r g p hg hp ho (o - p.o) (by omega)
    rw [show p.o + (o - p.o) = o by omega, ← e1, hv] at this
    cases this
  · rcases get_set hrl hq2 with ⟨rfl, rfl⟩ | ⟨hi, hq2⟩
    · rw [hg] at hq1; cases hq1
      rw [hp] at hpq; cases hpq
      exact ⟨rfl, rfl, fun e => (by rw [ho] at e; cases e), fun _ => hl, .inr hcs⟩
    · rw [hq1] at hq2; cases hq2
      refine ⟨rfl, rfl, fun _ => rfl, fun e => h.ext q x pq hq1 hpq e, .inl ⟨rfl, fun j hj ⟨e1, e2, e3⟩ => ?_⟩⟩
      have hw : j < x.wid pq := by
        unfold Rg.wid
        cases hxo : x.own with
        | true => have := h.ext q x pq hq1 hpq hxo; simp; omega
        | false => simpa using hj
      rcases h.disj r q g x p pq hg hp hq1 hpq ho (fun e => hi e.symm) j hw e1 with h1 | h1 <;> omega

/-- the regions' numbers, named, and what is known of them -/
theorem X.namesP {E : Ctx} {k : List It} {s : St} (P : Nums → Prop) (hP : ∀ (N : Nums) (w : World), E.N0.le N → Sat E.toEnv N s.rg w → P N) (h : ∀ N : Nums, E.N0.le N → N.length = s.rg.length → P N → X { E with N0 := N } k s) : X E k s := by
  refine X.conv fun N a w hN hf hS => ?_
  exact ⟨{ E with N0 := N }, s, rfl, rfl, rfl, rfl, ⟨N, Nums.le.refl _, hf, hS.env rfl rfl rfl rfl rfl⟩, h N hN hS.len (hP N w hN hS)⟩

end Go.Eng
