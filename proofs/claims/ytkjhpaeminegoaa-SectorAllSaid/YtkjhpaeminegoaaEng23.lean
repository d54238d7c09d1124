/- The symbolic executor, part 23: rows that a call hands back; cells of which the assertion tells, to be looked at. -/
import Derived.Test.YtkjhpaeminegoaaEng22

namespace Go.Eng

/-- a row that was made since -/
theorem Sat.addFresh {E : Env} {N : Nums} {rg : List Rg} {w : World} (h : Sat E N rg w) {b o x s0 : Nat} {cs : List SV} (hN : ∀ (r : Nat) (p : Num), N[r]? = some p → p.b < s0) (hs0 : s0 ≤ b) (hE : E.W.heap.size ≤ s0) (hb : b < w.heap.size) (hx : cs.length ≤ x)
    (hcs : ∀ (j : Nat) (c : SV), cs[j]? = some c → ∃ v, c.den N = some v ∧ w.cell? ⟨b, o + j, none⟩ = some v) (hro : ∀ j, j < x → (w.cell? ⟨b, o + j, none⟩).isSome = true ∧ w.frozen? ⟨b, o + j, none⟩ = false)
    (him : ∀ i, E.im b i = none) (hD : ∀ i, ¬ E.D b i) : Sat E (N ++ [⟨b, o, x⟩]) (rg ++ [⟨true, cs, none⟩]) w := by
  have hle : N.le (N ++ [⟨b, o, x⟩]) := Nums.le_append _ _
  refine ⟨by simp [h.len], ?_, ?_, ?_, ?_, ?_, ?_, ?_, h.imm, ?_, ?_, h.dlt, h.loc, h.res, h.chg, ?_⟩
  · intro i q hq
    rcases Nat.lt_or_ge i N.length with hi | hi
    · rw [List.getElem?_append_left hi] at hq; exact h.lt i q hq
    · rw [List.getElem?_append_right hi] at hq
      have hz : i - N.length = 0 := by
        have := (List.getElem?_eq_some_iff.1 hq).1
        simp at this; omega
      rw [hz] at hq; simp at hq; subst hq; exact hb
  · intro i g q hg hq j d hj
    rcases get_snoc h.len hg hq with ⟨a, b⟩ | ⟨_, rfl, rfl⟩
    · obtain ⟨v, h1, h2⟩ := h.cell i g q a b j d hj
      exact ⟨v, SV.den_mono hle d h1, h2⟩
    · obtain ⟨v, h1, h2⟩ := hcs j d hj
      exact ⟨v, SV.den_mono hle d h1, h2⟩
  · intro i g q hg hq ho
    rcases get_snoc h.len hg hq with ⟨a, b⟩ | ⟨_, rfl, rfl⟩
    · exact h.ext i g q a b ho
    · exact hx
  · intro i g q hg hq ho
    rcases get_snoc h.len hg hq with ⟨a, b⟩ | ⟨_, rfl, rfl⟩
    · exact h.room i g q a b ho
    · exact hro
  · intro i i' g g' q q' hg hq hg' hq' ho hne j hj hb'
    rcases get_snoc h.len hg hq with ⟨a1, a2⟩ | ⟨a0, rfl, rfl⟩ <;> rcases get_snoc h.len hg' hq' with ⟨b1, b2⟩ | ⟨b0, rfl, rfl⟩
    · exact h.disj i i' g g' q q' a1 a2 b1 b2 ho hne j hj hb'
    · have := hN i q a2; simp at hb'; omega
    · have := hN i' q' b2; simp at hb'; omega
    · omega
  · intro i g q ob hg hq ho
    rcases get_snoc h.len hg hq with ⟨a, b⟩ | ⟨_, rfl, rfl⟩
    · obtain ⟨⟨o', k1, k2⟩, k3⟩ := h.obj i g q ob a b ho
      exact ⟨⟨o', Ob.den_mono hle ob k1, k2⟩, k3⟩
    · simp at ho
  · intro i i' g g' q q' hg hq hg' hq' ho ho' hne
    rcases get_snoc h.len hg hq with ⟨a1, a2⟩ | ⟨a0, rfl, rfl⟩
    · rcases get_snoc h.len hg' hq' with ⟨b1, b2⟩ | ⟨b0, rfl, rfl⟩
      · exact h.odisj i i' g g' q q' a1 a2 b1 b2 ho ho' hne
      · simp at ho'
    · simp at ho
  · intro i g q hg hq ho
    rcases get_snoc h.len hg hq with ⟨a, b⟩ | ⟨_, rfl, rfl⟩
    · exact h.imd i g q a b ho
    · exact fun j _ => him _
  · intro i g q hg hq ho
    rcases get_snoc h.len hg hq with ⟨a, b⟩ | ⟨_, rfl, rfl⟩
    · exact h.dd i g q a b ho
    · exact fun j _ => hD _
  · intro i g q hg hq ho
    rcases get_snoc h.len hg hq with ⟨a, b⟩ | ⟨_, rfl, rfl⟩
    · exact h.foot i g q a b ho
    · exact .inl (Nat.le_trans hE hs0)

/-- a slice over a new row, nothing that was there being written -/
def FreshRet (cs : List SV) (n sz : Nat) (w : World) (e : Ending) (w' : World) : Prop :=
  ∃ b o x : Nat, e = .returned (.slice (some ⟨b, o, none⟩) n (x / sz)) ∧ w.heap.size ≤ b ∧ cs.length ≤ x ∧ 0 < x ∧ (∀ (j : Nat) (c : SV), cs[j]? = some c → ∃ v, c.den [] = some v ∧ w'.cell? ⟨b, o + j, none⟩ = some v) ∧
    (∀ j, j < x → (w'.cell? ⟨b, o + j, none⟩).isSome = true ∧ w'.frozen? ⟨b, o + j, none⟩ = false) ∧ Chg (fun _ _ => False) w w'

theorem FreshRet.sat {E : Env} {N : Nums} {rg : List Rg} {w w' : World} {cs : List SV} {n sz : Nat} {e : Ending} (hf : FreshRet cs n sz w e w') (h : Sat E N rg w) :
    ∃ (p : Num) (v : Value), e = .returned v ∧ (SV.osl rg.length 0 n sz none).den (N ++ [p]) = some v ∧ w.heap.size ≤ p.b ∧ Sat E (N ++ [p]) (rg ++ [⟨true, cs, none⟩]) w' := by
  obtain ⟨b, o, x, he, h1, h2, h3, h4, h5, hc⟩ := hf
  have hget : (N ++ [⟨b, o, x⟩])[rg.length]? = some ⟨b, o, x⟩ := by rw [← h.len]; simp
  refine ⟨⟨b, o, x⟩, _, he, by simp only [SV.den, hget, Num.cap]; simp, h1, ?_⟩
  have h0 := h.after0 hc
  refine h0.addFresh (s0 := w.heap.size) (fun r p hp => h.lt r p hp) h1 h.chg.size ?_ h2 (fun j c hj => ?_) h5 (fun i => ?_) (fun i hd => ?_)
  · obtain ⟨v, hv⟩ := Option.isSome_iff_exists.1 (h5 0 h3).1
    exact World.block_lt_of_cell? _ _ hv
  · obtain ⟨v, k1, k2⟩ := h4 j c hj
    exact ⟨v, SV.den_mono (N := []) (N' := N) (fun r p h => by simp at h) c k1, k2⟩
  · cases hi : E.im b i with
    | none => rfl
    | some v => have := World.block_lt_of_cell? _ _ (h.imm _ _ _ hi); simp at this; omega
  · have := (h.dlt _ _ hd).lt
    omega

section
variable {E : Ctx} {T : Tab} {all : Array Oper} {i : Nat} {rest : List Nat} {k : List It} {s : St} {o : Oper} {f : Fr}

/-- behind a call that hands back a new row -/
theorem Goes.fresh {N : Nums} {k : List It} {s : St} {d : Option Nat} {w w' : World} {cs : List SV} {n sz : Nat} {e : Ending} (hN : E.N0.le N) (h : Sat E.toEnv N s.rg w) (hf : FreshRet cs n sz w e w') {f' : Fr} (hp : putO E.n s.fr d (.val (.osl s.rg.length 0 n sz none)) = some f')
    (hx : X E k ⟨f', s.rg ++ [⟨true, cs, none⟩]⟩) : ∃ v, e = .returned v ∧ Goes E N k s.fr d v w' := by
  obtain ⟨p, v, h1, h2, _, h3⟩ := hf.sat h
  exact ⟨v, h1, E, N ++ [p], _, _, f', rfl, rfl, rfl, rfl, Nums.le_append _ _, hN.trans (Nums.le_append _ _), h3, h2, hp, hx⟩

/-- cells of which the assertion tells become a region to be looked at -/
theorem Sat.peek {E : Env} {N : Nums} {rg : List Rg} {w : World} (h : Sat E N rg w) {b o : Nat} {cs : List SV} (hb : b < w.heap.size) (hD : ∀ j, j < cs.length → E.D b (o + j)) (hcs : ∀ (j : Nat) (c : SV), cs[j]? = some c → ∃ v, c.den N = some v ∧ w.cell? ⟨b, o + j, none⟩ = some v) :
    Sat E (N ++ [⟨b, o, 0⟩]) (rg ++ [⟨false, cs, none⟩]) w := by
  have hle : N.le (N ++ [⟨b, o, 0⟩]) := Nums.le_append _ _
  refine ⟨by simp [h.len], ?_, ?_, ?_, ?_, ?_, ?_, ?_, h.imm, ?_, ?_, h.dlt, h.loc, h.res, h.chg, ?_⟩
  · intro i q hq
    rcases Nat.lt_or_ge i N.length with hi | hi
    · rw [List.getElem?_append_left hi] at hq; exact h.lt i q hq
    · rw [List.getElem?_append_right hi] at hq
      have hz : i - N.length = 0 := by
        have := (List.getElem?_eq_some_iff.1 hq).1
        simp at this; omega
      rw [hz] at hq; simp at hq; subst hq; exact hb
  · intro i x q hx hq j d hj
    rcases get_snoc h.len hx hq with ⟨a, b⟩ | ⟨_, rfl, rfl⟩
    · obtain ⟨v, h1, h2⟩ := h.cell i x q a b j d hj
      exact ⟨v, SV.den_mono hle d h1, h2⟩
    · obtain ⟨v, h1, h2⟩ := hcs j d hj
      exact ⟨v, SV.den_mono hle d h1, h2⟩
  · intro i x q hx hq hox
    rcases get_snoc h.len hx hq with ⟨a, b⟩ | ⟨_, rfl, rfl⟩
    · exact h.ext i x q a b hox
    · simp at hox
  · intro i x q hx hq hox
    rcases get_snoc h.len hx hq with ⟨a, b⟩ | ⟨_, rfl, rfl⟩
    · exact h.room i x q a b hox
    · simp at hox
  · intro i i' x x' q q' hx hq hx' hq' hox hne j hj hb
    rcases get_snoc h.len hx hq with ⟨a1, a2⟩ | ⟨a0, rfl, rfl⟩
    · rcases get_snoc h.len hx' hq' with ⟨b1, b2⟩ | ⟨b0, rfl, rfl⟩
      · exact h.disj i i' x x' q q' a1 a2 b1 b2 hox hne j hj hb
      · simp [Rg.wid] at hj hb ⊢
        rcases Nat.lt_or_ge (o + j) q.o with h3 | h3
        · exact .inl h3
        · right
          rcases Nat.lt_or_ge (o + j) (q.o + q.x) with h4 | h4
          · exfalso
            have := h.dd i x q a1 a2 hox (o + j - q.o) (by omega)
            rw [← hb, show q.o + (o + j - q.o) = o + j by omega] at this
            exact this (hD j hj)
          · exact h4
    · simp at hox
  · intro i x q ob hx hq hxo
    rcases get_snoc h.len hx hq with ⟨a, b⟩ | ⟨_, rfl, rfl⟩
    · obtain ⟨⟨o', k1, k2⟩, k3⟩ := h.obj i x q ob a b hxo
      exact ⟨⟨o', Ob.den_mono hle ob k1, k2⟩, k3⟩
    · simp at hxo
  · intro i i' x x' q q' hx hq hx' hq' hox hox' hne
    rcases get_snoc h.len hx hq with ⟨a1, a2⟩ | ⟨a0, rfl, rfl⟩
    · rcases get_snoc h.len hx' hq' with ⟨b1, b2⟩ | ⟨b0, rfl, rfl⟩
      · exact h.odisj i i' x x' q q' a1 a2 b1 b2 hox hox' hne
      · simp at hox'
    · simp at hox
  · intro i x q hx hq hox
    rcases get_snoc h.len hx hq with ⟨a, b⟩ | ⟨_, rfl, rfl⟩
    · exact h.imd i x q a b hox
    · simp at hox
  · intro i x q hx hq hox j hj hd
    rcases get_snoc h.len hx hq with ⟨a, b⟩ | ⟨_, rfl, rfl⟩
    · exact h.dd i x q a b hox j hj hd
    · simp at hox
  · intro i x q hx hq hox
    rcases get_snoc h.len hx hq with ⟨a, b⟩ | ⟨_, rfl, rfl⟩
    · exact h.foot i x q a b hox
    · simp at hox

theorem X.peek (b o : Nat) (cs : List SV) (hD : ∀ j, j < cs.length → E.D b (o + j)) (hcs : ∀ w, E.R w → ∀ (j : Nat) (c : SV), cs[j]? = some c → ∃ v, c.den [] = some v ∧ w.cell? ⟨b, o + j, none⟩ = some v) (hne : 0 < cs.length)
    (h : ∀ N : Nums, E.N0.le N → N.length = s.rg.length → X { E with N0 := N ++ [⟨b, o, 0⟩] } k ⟨s.fr, s.rg ++ [⟨false, cs, none⟩]⟩) : X E k s := by
  refine X.conv fun N a w hN hf hS => ?_
  refine ⟨{ E with N0 := N ++ [⟨b, o, 0⟩] }, ⟨s.fr, s.rg ++ [⟨false, cs, none⟩]⟩, rfl, rfl, rfl, rfl, ⟨_, Nums.le.refl _, hf.mono (Nums.le_append _ _), ?_⟩, h N hN hS.len⟩
  have hb : b < w.heap.size := by
    obtain ⟨c0, hc0⟩ : ∃ c, cs[0]? = some c := ⟨_, List.getElem?_eq_getElem hne⟩
    obtain ⟨v, _, hv⟩ := hcs w hS.res 0 c0 hc0
    exact World.block_lt_of_cell? _ _ hv
  refine Sat.peek (E := E.toEnv) hS hb hD fun j c hj => ?_
  obtain ⟨v, h1, h2⟩ := hcs w hS.res j c hj
  exact ⟨v, SV.den_mono (N := []) (N' := N) (fun r p h => by simp at h) c h1, h2⟩

/-- 'make' of a slice whose length is a number that is not known -/
theorem X.makeN (hT : TabOk E.P T) {t e : TypeId} {x y : Operand} {n c : SI} {kd kd' : IntKind} {m : Nat} {ti te : TI} (ho : nth all.toList i = some o) (hg : o.guard = none) (hop : o.op = .makeSlice t x y) (hx : ev s.fr x = some (.int kd n)) (hy : ev s.fr y = some (.int kd' c))
    (hn : n.den = (m : Nat)) (hc : c.den = (m : Nat)) (hti : lookT T t = some ti) (hk : ti.kind = .slice e) (hte : lookT T e = some te) (h1 : 0 < te.size) (h2 : te.zero.length = te.size) (h3 : m ≤ 1099511627776) (h4 : te.bytes * m ≤ 281474976710656)
    (hp : putO E.n s.fr o.dst (.val (.osl s.rg.length 0 m te.size (some m))) = some f) (hk' : X E (.ops all rest :: k) ⟨f, s.rg ++ [⟨true, Eng.rep m te.zero, none⟩]⟩) : X E (.ops all (i :: rest) :: k) s := by
  refine X.oper ho hg fun N a w hN hfr hS => ?_
  have e1 := ev_sound hfr hx
  have e2 := ev_sound hfr hy
  simp only [SV.den, hn, hc, Option.some.injEq] at e1 e2
  obtain ⟨N', v, w', k1, k2, k3, k4⟩ := makeSlice_sound (N := N) (rg := s.rg) (w := w) (E := E.toEnv) (n := (m : Int)) (c := (m : Int)) (k := kd) (k' := kd') hT.ok hS hti hk hte (by simp [h1, h2, h3, h4]; omega)
  simp only [Int.toNat_natCast] at k2 k4
  unfold Oper.wp
  have hex : (execOp a.eval o).run E.P w = .ok (.value v) w' := by simp [execOp, hop, ← e1, ← e2, k3, Result.andThen]
  rw [hex]
  exact hk' N' _ w' (hN.trans k1) (putO_sound (hfr.mono k1) k2 hp) k4

end

/-! ### in regions that draw their order -/
/-- operation j calls function g, that hands back a new row -/
def callFresh (j g : Nat) (cs : List SV) (m sz n : Nat) (all : Array Oper) (pr : St → List SV → Prop) : CallerP := fun i s => bif Nat.beq i j then
    match nth all.toList i with
    | none => none
    | some o => bif sure all s.fr o then
      match o.op with
      | .call c => match c.callee with
        | .value (.func g') => bif Nat.beq g' g then
            match evL s.fr c.args.toList with
            | some l => match putO n s.fr o.dst (.val (.osl s.rg.length 0 m sz none)) with
              | some f => some (⟨f, s.rg ++ [⟨true, cs, none⟩]⟩, [], pr s l)
              | none => none
            | none => none
          else none
        | _ => none
      | _ => none
    else none
  else none

theorem callFresh_ok {P : Program} {Rr : World → Prop} {im : Nat → Nat → Option Value} {j g : Nat} {cs : List SV} {m sz n : Nat} {all : Array Oper} {pr : St → List SV → Prop} (hb : ∀ args w, (callFunc g args).run P w = .ok (.enter g args) w)
    (hpr : ∀ s l, pr s l → ∀ (E : Env) (N : Nums) (w : World) (args : List Value), E.P = P → E.R = Rr → E.im = im → Sat E N s.rg w → SV.denL N l = some args → Calls P g args.toArray w (FreshRet cs m sz w)) : CallerPOk P n all Rr im (callFresh j g cs m sz n all pr) := by
  intro i s s' ws p hc hp
  unfold callFresh at hc
  have hb0 := bif_none hc
  clear hc
  obtain ⟨_, hc⟩ := hb0
  split at hc
  · cases hc
  · rename_i o ho
    rw [nth_eq] at ho
    have hb1 := bif_none hc
    clear hc
    obtain ⟨hsu, hc⟩ := hb1
    split at hc
    · rename_i c hop
      split at hc
      · rename_i g' hcal
        have hb2 := bif_none hc
        clear hc
        obtain ⟨hg, hc⟩ := hb2
        have hg := Nat.eq_of_beq_eq_true hg
        subst hg
        split at hc
        · rename_i l hl
          split at hc
          · rename_i f hput
            simp only [Option.some.injEq, Prod.mk.injEq] at hc
            obtain ⟨rfl, rfl, rfl⟩ := hc
            refine ⟨⟨fun r g hg _ => by rw [List.getElem?_append_left (List.getElem?_eq_some_iff.1 hg).1]; exact hg, by simp⟩, o, by simpa using ho, fun E N a w hP hn hR him hf hS => ⟨sure_sound hf hsu, fun K Q hK => ?_⟩⟩
            subst hP; subst hn
            have hargs := evL_sound hf _ hl
            have hexec : (execOp a.eval o).run E.P w = .ok (.enter g' (c.args.toList.map a.eval).toArray) w := by
              obtain ⟨callee, args, argTypes⟩ := c
              simp only at hcal
              try simp only at hl
              subst hcal
              simp only [execOp, hop, resolve, Act.eval, Deferred.ofValue, Sem.run_bind, Sem.run_pure, Result.andThen, invoke]
              rw [hb]
              congr 2
              apply Array.ext'
              simp
            unfold Oper.wp
            rw [hexec]
            show Calls _ _ _ _ _
            refine Calls.mono (hpr _ _ hp E N w _ rfl hR him hS hargs) fun e w' hfr => ?_
            obtain ⟨q, v, h1, h2, _, h3⟩ := hfr.sat hS
            subst h1
            exact hK (N ++ [q]) v w' (Nums.le_append _ _) (putO_sound (hf.mono (Nums.le_append _ _)) h2 hput) h3
          · cases hc
        · cases hc
      · cases hc
    · cases hc

/-- a temp, told in other words -/
theorem X.reval {E : Ctx} {k : List It} {s : St} (t : Nat) {v : SV} (v' : SV) (hl : look s.fr t = .val v) (hd : ∀ N, E.N0.le N → ∀ x, v.den N = some x → v'.den N = some x) (h : X E k ⟨(t, .val v') :: s.fr, s.rg⟩) : X E k s := by
  refine X.conv fun N a w hN hf hS => ?_
  refine ⟨E, ⟨(t, .val v') :: s.fr, s.rg⟩, rfl, rfl, rfl, rfl, ⟨N, hN, ⟨hf.size, hf.defers, fun t' => ?_⟩, hS⟩, h⟩
  simp only [look]
  cases e : Nat.beq t t' with
  | false => exact hf.ok t'
  | true =>
    have e := Nat.eq_of_beq_eq_true e
    subst e
    have hok := hf.ok t
    rw [hl] at hok
    obtain ⟨x, h1, h2⟩ := hok
    exact ⟨x, hd N hN x h1, h2⟩

end Go.Eng
