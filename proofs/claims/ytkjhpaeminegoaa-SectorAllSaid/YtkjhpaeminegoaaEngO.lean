/- The symbolic executor: in regions that draw their order an operation that only looks may be taken first, if nobody who may come ahead of it writes what it looks at. -/
import Derived.OrdersHeld

namespace Go.Eng

section
variable {P : Program} {ops : Array Oper} {Q : Exit → Act → World → Prop} {S : Array Bool → World → Prop}

/-- whatever order is drawn: behind each operation what is told of the world, given those that have come up, holds -/
def wpF (P : Program) (ops : Array Oper) (Q : Exit → Act → World → Prop) (S : Array Bool → World → Prop) : Nat → Array Bool → Act → World → Prop
  | 0, L, a, w => Region.ready .any ops L = [] ∧ Q .normal a w
  | m + 1, L, a, w => (Region.ready .any ops L = [] → Q .normal a w) ∧
    ∀ i ∈ Region.ready .any ops L, wpOp P ops Q i (fun a' w' => S (L.setIfInBounds i true) w' ∧ wpF P ops Q S m (L.setIfInBounds i true) a' w') a w

theorem wpF.any : ∀ (m : Nat) (L : Array Bool) (a : Act) (w : World), wpF P ops Q S m L a w → wpAny P .any ops Q m L a w
  | 0, _, _, _, h => h
  | m + 1, _, _, _, h => ⟨h.1, fun i hi => wpOp_mono (fun a' w' h' => wpF.any m _ a' w' h'.2) (h.2 i hi)⟩

/-- what may have come up while i has not -/
inductive Up (ops : Array Oper) (i : Nat) (L0 : Array Bool) : Array Bool → Prop
  | here : Up ops i L0 L0
  | step {L : Array Bool} {j : Nat} : Up ops i L0 L → j ∈ Region.ready .any ops L → j ≠ i → Up ops i L0 (L.setIfInBounds j true)

theorem Up.cons {i j : Nat} {L L' : Array Bool} (hj : j ∈ Region.ready .any ops L) (hne : j ≠ i) (h : Up ops i (L.setIfInBounds j true) L') : Up ops i L L' := by
  induction h with
  | here => exact .step .here hj hne
  | step _ h1 h2 ih => exact .step ih h1 h2

theorem wpF.first {i : Nat} {oi : Oper} {v : Value} (hi : ops[i]? = some oi) (hsel : ∀ (j : Nat) (o : Oper) cs b, ops[j]? = some o → o.op ≠ .select cs b)
    (hQ : ∀ c a w, Q (.panic c) (a.put oi.dst v) w → Q (.panic c) a w) (hq : ∀ L w, S (L.setIfInBounds i true) w ↔ S L w) :
    ∀ (m : Nat) (L : Array Bool) (a : Act) (w : World),
      (∀ j oj, ops[j]? = some oj → j ≠ i → L.getD j true = false → (∀ e ∈ oj.after, Region.binds .any e = true → e.on ≠ i) → oi.apart ops oj = true) →
      i ∈ Region.ready .any ops L → YieldsIf P ops (fun w => ∃ L', Up ops i L L' ∧ S L' w) oi v a → S L w →
      wpF P ops Q S m (L.setIfInBounds i true) (a.put oi.dst v) w → wpF P ops Q S (m + 1) L a w := by
  intro m
  induction m with
  | zero =>
    intro L a w _ hr hy hS H
    refine ⟨fun h => (by rw [h] at hr; cases hr), fun j hj => ?_⟩
    by_cases hji : j = i
    · subst hji; exact hy.wpOp hi ⟨L, .here, hS⟩ ⟨(hq L w).2 hS, H⟩
    · have := ready_mono hj hji
      rw [H.1] at this
      cases this
  | succ m ih =>
    intro L a w hfree hr hy hS H
    refine ⟨fun h => (by rw [h] at hr; cases hr), fun j hj => ?_⟩
    by_cases hji : j = i
    · subst hji; exact hy.wpOp hi ⟨L, .here, hS⟩ ⟨(hq L w).2 hS, H⟩
    · have h1 := H.2 j (ready_mono hj hji)
      obtain ⟨hjun, oj, hoj, hall⟩ := mem_ready.1 hj
      have hnot : ∀ e ∈ oj.after, Region.binds .any e = true → e.on ≠ i := fun e he hb heq => by
        have h1 := hall e he hb
        have h0 := (mem_ready.1 hr).1
        rw [heq] at h1
        rcases Nat.lt_or_ge i L.size with h' | h'
        · simp [h'] at h0 h1; rw [h0] at h1; cases h1
        · simp [Array.getElem?_eq_none h'] at h1
      have h2 := wpOp_putIf hoj (hfree j oj hoj hji hjun hnot) (fun cs b => hsel i oi cs b hi) (fun cs b => hsel j oj cs b hoj) hQ hy h1
      have hfree' : ∀ k ok, ops[k]? = some ok → k ≠ i → (L.setIfInBounds j true).getD k true = false →
          (∀ e ∈ ok.after, Region.binds .any e = true → e.on ≠ i) → oi.apart ops ok = true := fun k ok hk hki hun hno => by
        refine hfree k ok hk hki ?_ hno
        by_cases hjk : j = k
        · subst hjk; exact hjun
        · rw [getD_set_ne true hjk] at hun; exact hun
      refine wpOp_mono (fun a' w' h3 => ?_) h2
      obtain ⟨h4, h5, h6⟩ := h3
      rw [Array.setIfInBounds_comm _ _ (Ne.symm hji)] at h5 h6
      have h7 := (hq _ _).1 h5
      exact ⟨h7, ih (L.setIfInBounds j true) a' w' hfree' (ready_mono hr (Ne.symm hji)) (h4.imp (fun ⟨q1, q2⟩ => ⟨q1, fun w ⟨L', q3, q4⟩ => q2 w ⟨L', q3.cons hj hji, q4⟩⟩) id) h7 h6⟩

/-- number i taken first -/
theorem wpF.take {i : Nat} {oi : Oper} {v : Value} {m : Nat} {L : Array Bool} {a : Act} {w : World} (hi : ops[i]? = some oi)
    (hs : Region.noSelect ops = true) (hf : Region.free .any ops L i = true) (hr : (Region.ready .any ops L).contains i = true)
    (hQ : ∀ c a w, Q (.panic c) (a.put oi.dst v) w → Q (.panic c) a w) (hq : ∀ L w, S (L.setIfInBounds i true) w ↔ S L w) (hy : YieldsIf P ops (fun w => ∃ L', Up ops i L L' ∧ S L' w) oi v a) (hS : S L w)
    (h : wpF P ops Q S m (L.setIfInBounds i true) (a.put oi.dst v) w) : wpF P ops Q S (m + 1) L a w :=
  wpF.first hi (Region.noSelect_spec hs) hQ hq m L a w (Region.free_spec hi hf) (by simpa using hr) hy hS h

theorem wpF.all {rs : List Nat} {m : Nat} {L : Array Bool} {a : Act} {w : World} (hr : Region.ready .any ops L = rs) (hne : rs ≠ [])
    (h : ∀ i ∈ rs, wpOp P ops Q i (fun a' w' => S (L.setIfInBounds i true) w' ∧ wpF P ops Q S m (L.setIfInBounds i true) a' w') a w) : wpF P ops Q S (m + 1) L a w :=
  ⟨fun h0 => absurd (hr ▸ h0) hne, hr ▸ h⟩

theorem wpF.done {L : Array Bool} {a : Act} {w : World} (hr : Region.ready .any ops L = []) (h : Q .normal a w) : wpF P ops Q S 0 L a w := ⟨hr, h⟩

/-! ### which operations may come up while i has not -/
def memB : List Nat → Nat → Bool
  | [], _ => false
  | k :: r, n => Nat.beq k n || memB r n

/-- whoever is not among blk waits for i, or for somebody who is not among blk -/
def closedB (ops : Array Oper) (i : Nat) (blk : List Nat) : Bool :=
  (List.range ops.size).all fun j => memB blk j || Nat.beq j i || match ops[j]? with
    | some o => o.after.any fun e => Region.binds .any e && (Nat.beq e.on i || !memB blk e.on)
    | none => true

def withinB (L : Array Bool) (n : Nat) (blk : List Nat) : Bool := (List.range n).all fun j => !L.getD j false || memB blk j

theorem memB_ne {l : List Nat} {i j : Nat} (h : memB l i = true) (h' : memB l j = false) : i ≠ j := fun e => by subst e; rw [h] at h'; cases h'

theorem Up.within {i : Nat} {blk : List Nat} {L L' : Array Bool} (hc : closedB ops i blk = true) (hn : L.size = ops.size) (hi : L.getD i false = false) (h : Up ops i L L') (hw : withinB L ops.size blk = true) :
    L'.size = ops.size ∧ L'.getD i false = false ∧ ∀ j, L'.getD j false = true → memB blk j = true := by
  induction h with
  | here =>
    refine ⟨hn, hi, fun j hj => ?_⟩
    have hlt : j < ops.size := by
      rcases Nat.lt_or_ge j ops.size with h' | h'
      · exact h'
      · rw [Array.getD_eq_getD_getElem?, Array.getElem?_eq_none (by omega)] at hj; cases hj
    have := List.all_eq_true.1 hw j (List.mem_range.2 hlt)
    simpa [hj] using this
  | @step L1 j hup hj hne ih =>
    obtain ⟨h1, h2, h3⟩ := ih
    refine ⟨by simpa using h1, ?_, fun k hk => ?_⟩
    · rw [getD_set_ne false hne]; exact h2
    · by_cases hjk : j = k
      · subst hjk
        obtain ⟨_, oj, hoj, hall⟩ := mem_ready.1 hj
        have hlt : j < ops.size := (Array.getElem?_eq_some_iff.1 hoj).1
        have hcj := List.all_eq_true.1 hc j (List.mem_range.2 hlt)
        simp only [hoj, Bool.or_eq_true] at hcj
        rcases hcj with (h | h) | h
        · exact h
        · exact absurd (Nat.eq_of_beq_eq_true h) hne
        · obtain ⟨e, he, hb⟩ := Array.any_eq_true'.1 h
          simp only [Bool.and_eq_true, Bool.or_eq_true, Bool.not_eq_true'] at hb
          have hl := hall e he hb.1
          rcases hb.2 with hb | hb
          · have := Nat.eq_of_beq_eq_true hb
            rw [this, h2] at hl; cases hl
          · have := h3 e.on hl
            rw [hb] at this; cases this
      · rw [getD_set_ne false hjk] at hk
        exact h3 k hk

end
end Go.Eng
