/- The symbolic executor: what 'append', 'copy', 'make' and a slice's literal do in the model. -/
import Derived.Test.YtkjhpaeminegoaaEng5

namespace Go.Eng

section
variable {P : Program} {w : World}

def repV (n : Nat) (l : List Value) : List Value :=
  match n with
  | 0 => []
  | n + 1 => l ++ repV n l

theorem repV_length (n : Nat) (l : List Value) : (repV n l).length = n * l.length := by
  induction n with
  | zero => simp [repV]
  | succ n ih => simp [repV, ih, Nat.add_mul]; omega

theorem repV_get {l : List Value} (hl : 0 < l.length) : ∀ (n i : Nat), i < n * l.length → (repV n l)[i]? = l[i % l.length]?
  | 0, i, h => by omega
  | n + 1, i, h => by
    rw [Nat.add_mul, Nat.one_mul] at h
    simp only [repV]
    by_cases hi : i < l.length
    · rw [List.getElem?_append_left hi, Nat.mod_eq_of_lt hi]
    · rw [List.getElem?_append_right (by omega), repV_get hl n _ (by omega)]
      conv => rhs; rw [Nat.mod_eq_sub_mod (by omega)]

theorem denL_rep {N : Nums} {l : List SV} {m : List Value} (h : SV.denL N l = some m) : ∀ n, SV.denL N (rep n l) = some (repV n m)
  | 0 => rfl
  | n + 1 => by simp only [rep, repV]; exact SV.denL_append l _ h (denL_rep h n)

theorem zeros_eq {zero : Array Value} (hz : 0 < zero.size) (n : Nat) : (Array.range (n * zero.size)).map (fun i => zero[i % zero.size]!) = (repV n zero.toList).toArray := by
  apply Array.ext'
  apply List.ext_getElem?
  intro i
  simp only [Array.toList_map, Array.toList_range, List.getElem?_map]
  by_cases hi : i < n * zero.size
  · rw [repV_get (by simpa using hz) n i (by simpa using hi), List.getElem?_range hi]
    have : i % zero.size < zero.size := Nat.mod_lt _ hz
    simp [this]
  · have h1 : (repV n zero.toList)[i]? = none := List.getElem?_eq_none (by rw [repV_length]; simp; omega)
    have h2 : (List.range (n * zero.size))[i]? = none := List.getElem?_eq_none (by simp; omega)
    rw [h1, h2]
    rfl

theorem run_info {t : Nat} {i : TypeInfo} (h : P.info? t = some i) (w : World) : (typeInfo t).run P w = .ok i w := by
  simp [typeInfo, h, Result.andThen]

/-! ### a slice's literal, and 'make' -/
theorem run_buildSlice {t e len : Nat} {parts : Array (Nat × Value)} {zero : Value} {q : Array Value} (hu : P.underlying t = some (.slice e)) (hs : ∀ w, (sizeOf e).run P w = .ok zero.cells.size w) (hz : ∀ w, (zeroValue e).run P w = .ok zero w)
    (h0 : 0 < zero.cells.size) (hle : len * zero.cells.size ≤ 16777216) (hf : Instr.fill (fun i => some (i * zero.cells.size, zero.cells.size)) (repV len zero.cells.toList).toArray parts.toList = some q) :
    (Instr.buildSlice t len parts).run P w = .ok (.slice (some ⟨w.heap.size, 0, none⟩) len len) (w.alloc (.cells q e)) := by
  simp only [Instr.buildSlice, Sem.run_bind, run_underlying hu, hs, Result.andThen]
  have h1 : ¬ len * zero.cells.size > 2 ^ 24 := by omega
  simp only [h1, if_false, Sem.run_pure]
  by_cases hl : len = 0
  · subst hl
    simp only [Nat.zero_mul, if_true, Sem.run_pure]
    have : ((Array.range 0).map fun x => (#[] : Array Value)[x % (#[] : Array Value).size]!) = (repV 0 zero.cells.toList).toArray := by simp [repV]
    simp only [Sem.run_bind, Sem.run_pure, Result.andThen]
    rw [this, hf]
    simp [newRow, Result.andThen]
  · have h2 : len * zero.cells.size ≠ 0 := Nat.mul_ne_zero hl (by omega)
    simp only [h2, if_false, Sem.run_bind, hz, Result.andThen, Sem.run_pure]
    rw [zeros_eq h0, hf]
    simp [newRow, Result.andThen]

theorem run_makeSlice {t e : Nat} {k k' : IntKind} {len cap : Nat} {i : TypeInfo} {zero : Value} (hu : P.underlying t = some (.slice e)) (hi : P.info? e = some i) (hs : ∀ w, (sizeOf e).run P w = .ok zero.cells.size w) (hz : ∀ w, (zeroValue e).run P w = .ok zero w)
    (h0 : 0 < zero.cells.size) (hle : len ≤ cap) (hc : cap ≤ 1099511627776) (hb : i.bytes * cap ≤ 281474976710656) :
    (Instr.makeSlice t (.int k (len : Nat)) (.int k' (cap : Nat))).run P w = .ok (.slice (some ⟨w.heap.size, 0, none⟩) len cap) (w.alloc (.cells (repV cap zero.cells.toList).toArray e)) := by
  have w1 : IntKind.i64.wrap (len : Int) = len := by simp [IntKind.wrap, IntKind.bits, IntKind.signed]; omega
  have w2 : IntKind.i64.wrap (cap : Int) = cap := by simp [IntKind.wrap, IntKind.bits, IntKind.signed]; omega
  have hb' : ¬ (i.bytes : Int) * (cap : Int) > 2 ^ 48 := by
    have : ((i.bytes * cap : Nat) : Int) ≤ 281474976710656 := by omega
    rw [Int.natCast_mul] at this
    omega
  simp only [Instr.makeSlice, Sem.run_bind, run_underlying hu, Result.andThen, asInt, asIntOf, Sem.run_pure, Sem.run_map, run_info hi, w1, w2]
  have c1 : (((decide ((cap : Int) < 0) || decide ((i.bytes : Int) * (cap : Int) > 2 ^ 48)) || decide ((len : Int) < 0)) || decide ((len : Int) > cap)) = false := by
    simp only [Bool.or_eq_false_iff, decide_eq_false_iff_not]
    exact ⟨⟨⟨by omega, hb'⟩, by omega⟩, by omega⟩
  have c2 : ¬ ((((decide ((cap : Int) < 0) || decide ((i.bytes : Int) * (cap : Int) > 2 ^ 48)) || decide ((len : Int) < 0)) || decide ((len : Int) > cap)) = true) := by rw [c1]; simp
  rw [if_neg c2]
  have hroom : ∀ n w, (askRoom n).run P w = .ok () w := by intro n w; unfold askRoom; split <;> rfl
  simp only [Sem.run_bind, hroom, Result.andThen, hs, Int.toNat_natCast, Sem.run_pure]
  by_cases hl : cap = 0
  · subst hl
    simp only [Nat.zero_mul, if_true, Sem.run_pure]
    have e0 : Array.range 0 = #[] := by apply Array.ext'; simp
    simp [newRow, Result.andThen, repV, e0]
  · have h2 : cap * zero.cells.size ≠ 0 := Nat.mul_ne_zero hl (by omega)
    simp only [h2, if_false, Sem.run_bind, hz, Result.andThen, Sem.run_pure]
    rw [zeros_eq h0]
    simp [newRow, Result.andThen]

/-! ### 'append' -/
/-- what is appended: its elements' number, its cells -/
structure Src (P : Program) (size : Nat) (bytes : Nat) (zero : Value) (tx : Nat) (x : Value) (m : Nat) (vs : List Value) : Prop where
  kind : ((∃ k k' , P.underlying tx = some (.int k) ∧ x = .int k' (m : Nat) ∧ vs = repV m zero.cells.toList) ∨
    ((∃ d, P.underlying tx = some d ∧ ∀ k, d ≠ .int k) ∧ (∀ w, (Builtin.lenOf x).run P w = .ok m w)))
  le : m ≤ 1099511627776

theorem growBy_le (need : Nat) : ∀ (r c : Nat), c < need → Builtin.growBy need r c ≤ 2 * need + 192
  | 0, c, h => by simp [Builtin.growBy]; omega
  | r + 1, c, h => by
    simp only [Builtin.growBy]
    rw [if_neg (by omega)]
    by_cases hc : c + (c + 768) / 4 < need
    · exact growBy_le need r _ hc
    · have : ∀ r' c', need ≤ c' → Builtin.growBy need r' c' = c' := by
        intro r' c' h'
        cases r' with
        | zero => rfl
        | succ r' => simp only [Builtin.growBy]; rw [if_pos h']
      rw [this r _ (by omega)]
      omega

theorem nextcap_le {need old : Nat} (h : old < need) : Builtin.nextslicecap need old ≤ 2 * need + 192 := by
  unfold Builtin.nextslicecap
  split
  · omega
  · split
    · omega
    · exact growBy_le need 4 old h

theorem run_append {ta : Array Nat} {ty ts te tx : Nat} {zero s x : Value} {i : TypeInfo} {base : Option Addr} {n cap m : Nat} {old vs : List Value} (h0 : ta[0]? = some ts) (h1 : ta[1]? = some tx)
    (hu : P.underlying ts = some (.slice te)) (hi : P.info? te = some i) (hs : ∀ w, (sizeOf te).run P w = .ok zero.cells.size w) (hz : ∀ w, (zeroValue te).run P w = .ok zero w) (hz0 : 0 < zero.cells.size)
    (hss : s = .slice base n cap) (hsrc : Src P zero.cells.size i.bytes zero tx x m vs)
    (hcap : (2 * (n + m) + 256) * i.bytes ≤ 281474976710656) (hn : n + m ≤ 1099511627776)
    (hfirst : ∀ w', w'.heap = w.heap → (¬ ∃ k, P.underlying tx = some (.int k)) → (Builtin.firstCells zero.cells.size m x).run P w' = .ok vs.toArray w')
    (hold : cap < n + m → ∀ w', w'.heap = w.heap → (Builtin.firstCells zero.cells.size n s).run P w' = .ok old.toArray w')
    {wf : World} (hfit : n + m ≤ cap → (match base with | some a => (storeCells (a.add (n * zero.cells.size)) vs).run P w = .ok () wf | none => wf = w)) :
    (n + m ≤ cap → (Builtin.append_ ta ty #[s, x]).run P w = .ok (.slice base (n + m) cap) wf) ∧
    (cap < n + m → ∃ K rest, n + m ≤ K ∧ rest.length = (K - (n + m)) * zero.cells.size ∧ (Builtin.append_ ta ty #[s, x]).run P w = .ok (.slice (some ⟨w.heap.size, 0, none⟩) (n + m) K) (w.drew.alloc (.cells (old ++ vs ++ rest).toArray te))) := by
  subst hss
  have w1 : IntKind.i64.wrap (m : Int) = m := by have := hsrc.le; simp [IntKind.wrap, IntKind.bits, IntKind.signed]; omega
  have hb : ¬ (m : Int) * (i.bytes : Int) > 2 ^ 48 := by
    have h3 : m * i.bytes ≤ (2 * (n + m) + 256) * i.bytes := Nat.mul_le_mul_right _ (by omega)
    have : ((m * i.bytes : Nat) : Int) ≤ 281474976710656 := by omega
    rw [Int.natCast_mul] at this
    omega
  have hneg : ¬ (m : Int) < 0 := by omega
  -- what is appended
  obtain ⟨d, hux, hd, hnew⟩ : ∃ (d : TypeDesc), P.underlying tx = some d ∧ (((∃ k, d = .int k) ∧ ∃ k', x = .int k' (m : Nat)) ∨ ((∀ k, d ≠ .int k) ∧ ∀ w, (Builtin.lenOf x).run P w = .ok m w)) ∧
      ∀ w', w'.heap = w.heap → (if (match d with | .int _ => true | _ => false) = true then (if m * zero.cells.size = 0 then pure #[] else do pure (Builtin.zeroCells (← zeroValue te).cells m)) else Builtin.firstCells zero.cells.size m x : Sem (Array Value)).run P w' = .ok vs.toArray w' := by
    rcases hsrc.kind with ⟨k, k', hux, rfl, rfl⟩ | ⟨⟨d, hux, hd⟩, hl⟩
    · refine ⟨_, hux, .inl ⟨⟨k, rfl⟩, k', rfl⟩, fun w' hw' => ?_⟩
      simp only [if_true]
      by_cases hm : m = 0
      · subst hm; simp [repV]
      · have h2 : m * zero.cells.size ≠ 0 := Nat.mul_ne_zero hm (by omega)
        simp only [h2, if_false, Sem.run_bind, hz, Result.andThen, Sem.run_pure, Builtin.zeroCells]
        rw [zeros_eq hz0]
    · refine ⟨d, hux, .inr ⟨hd, hl⟩, fun w' hw' => ?_⟩
      have := hfirst w' hw' (fun ⟨k, hk⟩ => by rw [hux] at hk; cases hk; exact hd k rfl)
      cases d <;> first | exact absurd rfl (hd _) | simpa using this
  have hbig : ¬ (((n + m : Nat) : Int) > IntKind.i64.max) := by
    intro h
    simp [IntKind.max, IntKind.bits, IntKind.signed] at h
    omega
  have hroom : ∀ n w, (askRoom n).run P w = .ok () w := by intro n w; unfold askRoom; split <;> rfl
  have hl : ∀ w, (∃ k', x = .int k' (m : Nat)) ∨ (Builtin.lenOf x).run P w = .ok m w := fun w => by
    rcases hd with ⟨_, h⟩ | ⟨_, h⟩
    · exact .inl h
    · exact .inr (h w)
  refine ⟨fun hle => ?_, fun hlt => ?_⟩
  · have hnew := hnew w rfl
    have := hfit hle
    cases d
    all_goals
      rcases hd with ⟨⟨k, hk⟩, k', rfl⟩ | ⟨hk, hl⟩ <;> first | (cases hk; done) | exact absurd rfl (hk _) | skip
      simp only [Bool.false_eq_true, if_false, if_true] at hnew
      simp only [Builtin.append_, h0, h1, List.getElem?_toArray, List.getElem?_cons_zero, List.getElem?_cons_succ, Sem.run_bind, run_underlying hu, run_underlying hux, Result.andThen, hs, Sem.run_pure, asInt, asIntOf, Sem.run_map, w1, hneg, run_info hi, hb,
        Int.toNat_natCast, hl, Bool.false_eq_true, if_false, if_true, if_pos hle, Bool.not_true, Bool.not_false, hnew]
      cases base with
      | none => simp only at this; subst this; rfl
      | some a =>
        simp only at this
        simp only [Sem.run_bind, this, Result.andThen, Sem.run_pure]
  · have hcap' : ¬ Builtin.nextslicecap (n + m) cap * i.bytes > 2 ^ 48 := by
      have h3 := nextcap_le hlt
      have : Builtin.nextslicecap (n + m) cap * i.bytes ≤ (2 * (n + m) + 256) * i.bytes := Nat.mul_le_mul_right _ (by omega)
      omega
    let K := (Question.appendCap (n + m) cap te).cut (w.tape w.drawn (.appendCap (n + m) cap te))
    have hK : n + m ≤ K := by show n + m ≤ n + m + _; omega
    refine ⟨K, repV (K - (n + m)) zero.cells.toList, hK, by rw [repV_length]; simp, ?_⟩
    have hnot : ¬ n + m ≤ cap := by omega
    have hch : (choose (.appendCap (n + m) cap te)).run P w = .ok K w.drew := rfl
    have hnew := hnew w.drew rfl
    have hold' := hold hlt w.drew rfl
    cases d
    all_goals
      rcases hd with ⟨⟨k, hk⟩, k', rfl⟩ | ⟨hk, hl⟩ <;> first | (cases hk; done) | exact absurd rfl (hk _) | skip
      simp only [Bool.false_eq_true, if_false, if_true] at hnew
      simp only [Builtin.append_, h0, h1, List.getElem?_toArray, List.getElem?_cons_zero, List.getElem?_cons_succ, Sem.run_bind, run_underlying hu, run_underlying hux, Result.andThen, hs, Sem.run_pure, asInt, asIntOf, Sem.run_map, w1, hneg, run_info hi, hb,
        Int.toNat_natCast, hl, Bool.false_eq_true, if_false, if_true, if_neg hnot, Bool.not_true, Bool.not_false, hnew, hbig, false_and, hcap', hch, hroom, hold', hz]
      simp only [Builtin.zeroCells]
      rw [zeros_eq hz0]
      simp [newRow, Result.andThen]

end
end Go.Eng
