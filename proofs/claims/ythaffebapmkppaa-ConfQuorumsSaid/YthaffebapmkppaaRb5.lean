/- RingBuilds. -/
import Derived.Test.YthaffebapmkppaaRb4

namespace Go.Proofs.Ythaffebapmkppaa
open Go Go.Eng Go.Sort

/-- a row that was made since, only read; of no cells: wherever -/
theorem Sat.addRoW {E : Env} {N : Nums} {rg : List Rg} {w : World} (h : Sat E N rg w) {b o x s0 : Nat} {cs : List SV} (hN : ∀ (r : Nat) (p : Num), N[r]? = some p → p.b < s0) (hs0 : 0 < cs.length → s0 ≤ b) (hb : b < w.heap.size)
    (hcs : ∀ (j : Nat) (c : SV), cs[j]? = some c → ∃ v, c.den N = some v ∧ w.cell? ⟨b, o + j, none⟩ = some v) : Sat E (N ++ [⟨b, o, x⟩]) (rg ++ [⟨false, cs, none⟩]) w := by
  rcases Nat.eq_zero_or_pos cs.length with h0 | h0
  · obtain rfl : cs = [] := List.eq_nil_of_length_eq_zero h0
    have hle : N.le (N ++ [⟨b, o, x⟩]) := Nums.le_append _ _
    refine ⟨by simp [h.len], ?_, ?_, ?_, ?_, ?_, ?_, ?_, h.imm, ?_, ?_, h.dlt, h.loc, h.res, h.chg, ?_⟩
    · intro i q hq
      rcases Nat.lt_or_ge i N.length with hi | hi
      · rw [List.getElem?_append_left hi] at hq; exact h.lt i q hq
      · rw [List.getElem?_append_right hi] at hq
        have hz : i - N.length = 0 := by
          have := (List.getElem?_eq_some_iff.1 hq).1
          simp at this; omega
        rw [hz] at hq; simp at hq; subst hq; exact hb
    · intro i g q hg hq j d hj
      rcases get_snoc h.len hg hq with ⟨a, b⟩ | ⟨_, rfl, rfl⟩
      · obtain ⟨v, h1, h2⟩ := h.cell i g q a b j d hj
        exact ⟨v, SV.den_mono hle d h1, h2⟩
      · simp at hj
    · intro i g q hg hq ho
      rcases get_snoc h.len hg hq with ⟨a, b⟩ | ⟨_, rfl, rfl⟩
      · exact h.ext i g q a b ho
      · cases ho
    · intro i g q hg hq ho
      rcases get_snoc h.len hg hq with ⟨a, b⟩ | ⟨_, rfl, rfl⟩
      · exact h.room i g q a b ho
      · cases ho
    · intro i i' g g' q q' hg hq hg' hq' ho hne j hj hb'
      rcases get_snoc h.len hg hq with ⟨a1, a2⟩ | ⟨a0, rfl, rfl⟩
      · rcases get_snoc h.len hg' hq' with ⟨b1, b2⟩ | ⟨b0, rfl, rfl⟩
        · exact h.disj i i' g g' q q' a1 a2 b1 b2 ho hne j hj hb'
        · exact absurd hj (Nat.not_lt_zero j)
      · cases ho
    · intro i g q ob hg hq ho
      rcases get_snoc h.len hg hq with ⟨a, b⟩ | ⟨_, rfl, rfl⟩
      · obtain ⟨⟨o', k1, k2⟩, k3⟩ := h.obj i g q ob a b ho
        exact ⟨⟨o', Ob.den_mono hle ob k1, k2⟩, k3⟩
      · simp at ho
    · intro i i' g g' q q' hg hq hg' hq' ho ho' hne
      rcases get_snoc h.len hg hq with ⟨a1, a2⟩ | ⟨a0, rfl, rfl⟩
      · rcases get_snoc h.len hg' hq' with ⟨b1, b2⟩ | ⟨b0, rfl, rfl⟩
        · exact h.odisj i i' g g' q q' a1 a2 b1 b2 ho ho' hne
        · simp at ho'
      · simp at ho
    · intro i g q hg hq ho
      rcases get_snoc h.len hg hq with ⟨a, b⟩ | ⟨_, rfl, rfl⟩
      · exact h.imd i g q a b ho
      · cases ho
    · intro i g q hg hq ho
      rcases get_snoc h.len hg hq with ⟨a, b⟩ | ⟨_, rfl, rfl⟩
      · exact h.dd i g q a b ho
      · cases ho
    · intro i g q hg hq ho
      rcases get_snoc h.len hg hq with ⟨a, b⟩ | ⟨_, rfl, rfl⟩
      · exact h.foot i g q a b ho
      · cases ho
  · exact Sat.addRo h hN (hs0 h0) hb hcs

theorem RoR.sat {E : Env} {N : Nums} {rg : List Rg} {w w' : World} {cs : List SV} {n sz : Nat} {e : Ending} (hz : 0 < sz) (hf : RoR cs n w e w') (h : Sat E N rg w) :
    ∃ N' v, e = .returned v ∧ N.le N' ∧ (SV.osl rg.length 0 n sz none).den N' = some v ∧ Sat E N' (rg ++ [⟨false, cs, none⟩]) w' := by
  obtain ⟨b, o, c, he, h1, h2, h3, hc⟩ := hf
  have hget : (N ++ [⟨b, o, sz * c⟩] : Nums)[rg.length]? = some ⟨b, o, sz * c⟩ := by rw [← h.len]; simp
  refine ⟨N ++ [⟨b, o, sz * c⟩], _, he, Nums.le_append _ _, by simp only [SV.den, hget, Num.cap, Nat.add_zero, Nat.sub_zero, Nat.mul_div_cancel_left _ hz], ?_⟩
  exact Sat.addRoW (h.after0 hc) (s0 := w.heap.size) (fun r p hp => h.lt r p hp) h1 h2 (fun j c hj => by
    obtain ⟨v, k1, k2⟩ := h3 j c hj
    exact ⟨v, k1 N, k2⟩)
theorem BytRet.gsat {E : Env} {N : Nums} {rg : List Rg} {w w' : World} {l : List Int} {e : Ending} (hf : BytRet l w e w') (h : Sat E N rg w) (hne : 0 < rg.length) :
    ∃ N' v, e = .returned v ∧ N.le N' ∧ (gV rg.length l.length 1).den N' = some v ∧ Sat E N' (rg ++ [⟨false, bytL l, none⟩]) w' := by
  by_cases hl : l = []
  · subst hl
    obtain ⟨p, c, he, _, hr, hc⟩ := hf
    rcases hr with ⟨_, rfl, rfl⟩ | ⟨hr, _⟩
    · obtain ⟨p0, hp0⟩ : ∃ p, N[0]? = some p := ⟨_, List.getElem?_eq_getElem (by rw [h.len]; exact hne)⟩
      have h' := h.after0 hc
      exact ⟨N ++ [⟨p0.b, 0, 0⟩], _, he, Nums.le_append _ _, by simp [gV, SV.den, one?], Sat.addRoW h' (s0 := w'.heap.size) (fun r p hp => h'.lt r p hp) (fun h => absurd h (by simp [bytL])) (h'.lt 0 p0 hp0) (fun j c hj => by simp [bytL] at hj)⟩
    · exact absurd rfl hr
  · have hr := hf.ro hl
    obtain ⟨N', v, h1, h2, h3, h4⟩ := hr.sat (sz := 1) (by decide) h
    refine ⟨N', v, h1, h2, ?_, h4⟩
    have hb : Nat.beq l.length 0 = false := by
      cases l with
      | nil => exact absurd rfl hl
      | cons => rfl
    simpa only [gV, hb, cond_false] using h3

theorem goodR_strG {P : Program} {n : Nat} {ops : Array Oper} {N0 : Nums} {j d x src e dst r m : Nat} {l : List Int} {u : ByteArray} {ow : Bool} {sx : SV} (hop : ∀ o, nth ops.toList j = some o → o.op = .convert src dst (.tmp x)) (hs : P.underlying src = some (.slice e)) (he : P.underlying e = some (.int .u8)) (hd : P.underlying dst = some .string)
    (cs : List SV) (hcs : cs = bytL l) (hm : l.length = m) (hu : u = strOfNums l) (hsx : sx = gV r m 1) : ValR.good P n ops N0 ⟨j, d, .raw (.string u), fun rg f => ev f (.tmp x) = some sx ∧ nth rg r = some ⟨ow, cs, none⟩⟩ := by
  intro rg f ⟨hx, hr⟩ N a o w hN ho hfr hV
  refine ⟨_, rfl, fun w' hV' => ?_⟩
  have h1 := ev_sound hfr hx
  rw [nth_eq] at hr
  obtain ⟨p, hp⟩ : ∃ p, N[r]? = some p := ⟨_, List.getElem?_eq_getElem (by have := (List.getElem?_eq_some_iff.1 hr).1; have := hV.len; omega)⟩
  rw [hsx] at h1
  obtain ⟨q, c, e1, e2, e3⟩ := gV_den hp h1
  subst hu
  by_cases h0 : m = 0
  · obtain ⟨rfl, rfl⟩ := e3 h0
    subst h0
    obtain rfl : l = [] := List.eq_nil_of_length_eq_zero hm
    have := run_convert_bytes_nil w' src e hs he 0 0 dst hd
    simp only [execOp, hop o ho, e1, this, Sem.run_bind, Result.andThen, Sem.run_pure]
    rfl
  · have e2 := e2 (by omega)
    subst e2
    have := run_convert_bytes_arg (P := P) (w := w') src e hs he p.b (p.o + 0) m c l hm (fun j hj => by
      obtain ⟨v, k1, k2⟩ := hV'.cell r _ p hr hp j (.int .u8 (.v l[j]!)) (by rw [hcs]; simp [bytL, hm, hj])
      simp only [SV.den, SI.den, Option.some.injEq] at k1
      rw [Nat.add_zero, k2, ← k1]
      simp [hm, hj]) dst hd
    simp only [execOp, hop o ho, e1, this, Sem.run_bind, Result.andThen, Sem.run_pure]

theorem run_equalIn_bool {P : Program} {w : World} {t : Nat} (d : Nat) (h : P.underlying t = some .bool) (u : Bool) : (Op.equalIn (d + 1) t (.bool u) (.bool u)).run P w = .ok true w := by
  simp only [Op.equalIn, Sem.run_bind, run_underlying h, Result.andThen]
  simp

theorem goodR_eqb {P : Program} {n : Nat} {ops : Array Oper} {N0 : Nums} {j d x y t : Nat} {u : Bool} (hop : ∀ o, nth ops.toList j = some o → o.op = .binOp .eql t (.tmp x) (.tmp y) t) (hu : P.underlying t = some .bool) :
    ValR.good P n ops N0 ⟨j, d, .bool (.lit true), fun _ f => ev f (.tmp x) = some (.bool (.v u)) ∧ ev f (.tmp y) = some (.bool (.v u))⟩ := by
  intro rg f ⟨hx, hy⟩ N a o w hN ho hfr hV
  refine ⟨_, rfl, fun w' _ => ?_⟩
  have h1 := ev_sound hfr hx
  have h2 := ev_sound hfr hy
  simp only [SV.den, SB.den, Option.some.injEq] at h1 h2
  have hb' : ∀ w', (binOp .eql t (.bool u) (.bool u)).run P w' = .ok (.bool true) w' := fun w' => by
    have e2 : (Op.equal t (.bool u) (.bool u)).run P w' = .ok true w' := run_equalIn_bool 9999 hu u
    simp [binOp, e2, Result.andThen]
  simp [execOp, hop o ho, ← h1, ← h2, Result.andThen, eqGuard_none, hb', SB.den]

theorem Goes.ro {E : Ctx} {N : Nums} {k : List It} {s : St} {d : Option Nat} {e : Ending} {w w' : World} {cs : List SV} {n sz : Nat} (hN : E.N0.le N) (h : Sat E.toEnv N s.rg w) (hz : 0 < sz) (hf : RoR cs n w e w') {f' : Fr} (hp : putO E.n s.fr d (.val (.osl s.rg.length 0 n sz none)) = some f')
    (hx : X E k ⟨f', s.rg ++ [⟨false, cs, none⟩]⟩) : ∃ v, e = .returned v ∧ Goes E N k s.fr d v w' := by
  obtain ⟨N', v, h1, h2, h3, h4⟩ := hf.sat hz h
  exact ⟨v, h1, E, N', _, _, f', rfl, rfl, rfl, rfl, h2, hN.trans h2, h4, h3, hp, hx⟩

end Go.Proofs.Ythaffebapmkppaa
