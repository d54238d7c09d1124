/- From what can be read (DataW.trod) to cells: a struct argument opened in one go. -/
import Derived.Deep.Slices
import Derived.ChangeArms
import Derived.KernelRfl

namespace Go.Eng

/-- what lies in a cell -/
inductive CK where
  | int (k : IntKind)
  | bool
  | str
  | slice (e : Nat)
  | ptr (e : Nat)

/-- these cells can be read as a value of the type -/
def Rd (P : Program) (w : World) (base : Nat) (t : Nat) (cs : List Value) : Prop :=
  ∃ (H : Type) (enc : TypeId × Value → H) (sp : Nat → Bool) (held : Bool) (fuel : Nat) (x : DataW H × List MemPlace), DataW.trod enc P w base sp held fuel t cs = some x

/-- a row of n cells lies there, and can be read -/
def RdAt (P : Program) (w : World) (base : Nat) (b y : Nat) (e : Nat) : Prop :=
  base ≤ b ∧ ∃ cs, cs.length = P.cellsOf e ∧ (∀ (j : Nat) (v : Value), cs[j]? = some v → w.cell? ⟨b, y + j, none⟩ = some v) ∧ Rd P w base e cs

def CellOk (P : Program) (w : World) (base : Nat) : CK → Value → Prop
  | .int k, v => ∃ n, v = .int k n ∧ (Lit.int k n).wf = true
  | .bool, v => ∃ b, v = .bool b
  | .str, v => ∃ s, v = .string s ∧ s.size ≤ maxLen
  | .slice e, v => ∃ p n c, v = .slice p n c ∧ n ≤ c ∧ c ≤ maxLen ∧ (0 < P.cellsOf e → 0 < n → ∃ b x, p = some ⟨b, x, none⟩ ∧ ∀ i, i < n → RdAt P w base b (x + i * P.cellsOf e) e)
  | .ptr e, v => ∃ p, v = .pointer p ∧ (0 < P.cellsOf e → ∀ a, p = some a → ∃ b x, a = ⟨b, x, none⟩ ∧ RdAt P w base b x e)

def CellsOk (P : Program) (w : World) (base : Nat) : List CK → List Value → Prop
  | [], [] => True
  | k :: ks, v :: vs => CellOk P w base k v ∧ CellsOk P w base ks vs
  | _, _ => False

def kindsFs (P : Program) (sh : Nat → Option (List CK)) : List Field → Nat → Option (List CK)
  | [], _ => some []
  | f :: fs, o => bif Nat.beq f.offset o then
      match sh f.type with
      | some s => bif Nat.beq (P.cellsOf f.type) s.length then
          match kindsFs P sh fs (o + s.length) with
          | some r => some (s ++ r)
          | none => none
        else none
      | none => none
    else none

def kindsOf (P : Program) : Nat → Nat → Option (List CK)
  | 0, _ => none
  | m + 1, t => match P.underlying t with
    | some (.int k) => some [.int k]
    | some .bool => some [.bool]
    | some .string => some [.str]
    | some (.slice e) => some [.slice e]
    | some (.pointer e) => some [.ptr e]
    | some (.struct fs) => match kindsFs P (kindsOf P m) fs.toList 0 with
      | some s => bif Nat.beq (P.cellsOf t) s.length then some s else none
      | none => none
    | _ => none

theorem CellsOk.append {P : Program} {w : World} {base : Nat} : ∀ {ks ls : List CK} {us vs : List Value}, CellsOk P w base ks us → CellsOk P w base ls vs → CellsOk P w base (ks ++ ls) (us ++ vs)
  | [], _, [], _, _, h => h
  | _ :: _, _, _ :: _, _, h, k => ⟨h.1, CellsOk.append h.2 k⟩
  | [], _, _ :: _, _, h, _ => h.elim
  | _ :: _, _, [], _, h, _ => h.elim

theorem spot_none {w : World} {a : Addr} {v : Value} (h : w.cell? a = some v) : a = ⟨a.block, a.off, none⟩ := by
  unfold World.cell? at h
  split at h
  · split at h
    · cases h
    · rename_i hs
      obtain ⟨b, o, s⟩ := a
      cases s <;> simp_all
  · cases h

theorem spot_row {w : World} {base : Nat} {a : Addr} {q : Nat} {cs : List Value} (hp : 0 < q) (h : w.cells? base a q = some cs) : a = ⟨a.block, a.off, none⟩ := by
  obtain ⟨_, h2, h3⟩ := World.cells?_some h
  have h30 := h3 0 hp
  have hlt : 0 < cs.length := by omega
  rw [List.getElem?_eq_getElem hlt] at h30
  have : a.add 0 = a := by simp [Addr.add]
  rw [this] at h30
  exact spot_none h30

theorem add_plain (b o j : Nat) : (Addr.mk b o none).add j = ⟨b, o + j, none⟩ := by
  unfold Addr.add
  by_cases h : j = 0
  · subst h; simp
  · simp [h]

theorem rdAt_of {P : Program} {w : World} {base : Nat} {b x e : Nat} {cs : List Value} (h : w.cells? base ⟨b, x, none⟩ (P.cellsOf e) = some cs) (hr : Rd P w base e cs) : RdAt P w base b x e := by
  obtain ⟨h1, h2, h3⟩ := World.cells?_some h
  refine ⟨h1, cs, h2, fun j v hj => ?_, hr⟩
  have hj' : j < P.cellsOf e := by rw [← h2]; exact (List.getElem?_eq_some_iff.1 hj).1
  have := h3 j hj'
  rw [add_plain] at this
  rw [this, hj]

theorem kindsFs_sound {P : Program} {w : World} {base : Nat} {sh : Nat → Option (List CK)} (ih : ∀ t ks cs, sh t = some ks → Rd P w base t cs → CellsOk P w base ks cs) (all : List Value) :
    ∀ (fs : List Field) (o : Nat) (ks : List CK), kindsFs P sh fs o = some ks → (all.drop o).length = ks.length → (∀ f ∈ fs, Rd P w base f.type ((all.drop f.offset).take (P.cellsOf f.type))) → CellsOk P w base ks (all.drop o)
  | [], o, ks, h, hl, _ => by
    simp only [kindsFs, Option.some.injEq] at h; subst h
    have : all.drop o = [] := List.eq_nil_of_length_eq_zero (by rw [hl]; rfl)
    rw [this]; trivial
  | f :: fs, o, ks, h, hl, hr => by
    simp only [kindsFs] at h
    cases hb : Nat.beq f.offset o with
    | false => rw [hb] at h; simp at h
    | true =>
      rw [hb] at h
      simp only [cond_true] at h
      have hoff := Nat.eq_of_beq_eq_true hb
      split at h
      · rename_i s hs
        cases hc : Nat.beq (P.cellsOf f.type) s.length with
        | false => rw [hc] at h; simp at h
        | true =>
          rw [hc] at h
          simp only [cond_true] at h
          have hsz := Nat.eq_of_beq_eq_true hc
          split at h
          · rename_i r hrr
            simp only [Option.some.injEq] at h; subst h
            rw [List.length_append] at hl
            have h1 := hr f List.mem_cons_self
            rw [hoff, hsz] at h1
            have k1 := ih _ _ _ hs h1
            have k2 := kindsFs_sound ih all fs (o + s.length) r hrr (by rw [List.length_drop] at hl ⊢; omega) (fun g hg => hr g (List.mem_cons_of_mem _ hg))
            have hsplit : all.drop o = (all.drop o).take s.length ++ all.drop (o + s.length) := by
              rw [← List.drop_drop, List.take_append_drop]
            rw [hsplit]
            exact k1.append k2
          · cases h
      · cases h

theorem kindsOf_sound {P : Program} {w : World} {base : Nat} : ∀ (m t : Nat) (ks : List CK) (cs : List Value), kindsOf P m t = some ks → Rd P w base t cs → CellsOk P w base ks cs := by
  intro m
  induction m with
  | zero => intro t ks cs h; simp [kindsOf] at h
  | succ m ih =>
    intro t ks cs h hr
    obtain ⟨H, enc, sp, held, fuel, x, hx⟩ := hr
    simp only [kindsOf] at h
    split at h
    · rename_i k hu
      simp only [Option.some.injEq] at h; subst h
      obtain ⟨n, rfl, _, hw⟩ := DataW.trod_int hu hx
      exact ⟨⟨n, rfl, hw⟩, trivial⟩
    · rename_i hu
      simp only [Option.some.injEq] at h; subst h
      obtain ⟨b, rfl, _⟩ := DataW.trod_bool hu hx
      exact ⟨⟨b, rfl⟩, trivial⟩
    · rename_i hu
      simp only [Option.some.injEq] at h; subst h
      obtain ⟨s, rfl, _, hs⟩ := DataW.trod_string hu hx
      exact ⟨⟨s, rfl, hs⟩, trivial⟩
    · rename_i e hu
      simp only [Option.some.injEq] at h; subst h
      rcases Go.Deep.open_slice hu hx with ⟨rfl, _⟩ | ⟨a, len, cap, m', n, D, Pl, rfl, hb, hl, hm, hm', _, hel⟩
      · exact ⟨⟨none, 0, 0, rfl, Nat.le_refl _, Nat.zero_le _, fun _ h => absurd h (by omega)⟩, trivial⟩
      · refine ⟨⟨some a, len, cap, rfl, hl, hm, fun hp hn => ?_⟩, trivial⟩
        have hle : len ≤ m' := by rw [hm']; split <;> omega
        obtain ⟨cs0, h0, _⟩ := hel 0 (by omega)
        have ha : a.add (0 * P.cellsOf e) = a := by simp [Addr.add]
        rw [ha] at h0
        have hs := spot_row hp h0
        refine ⟨a.block, a.off, by rw [← hs], fun i hi => ?_⟩
        obtain ⟨cs', h1, h2⟩ := hel i (by omega)
        rw [hs, add_plain] at h1
        exact rdAt_of h1 ⟨H, enc, sp, held, n, _, h2⟩
    · rename_i e hu
      simp only [Option.some.injEq] at h; subst h
      rcases DataW.trod_pointer hu hx with ⟨rfl, _⟩ | ⟨a, cs', y, n, _, rfl, _, hc, hy⟩
      · exact ⟨⟨none, rfl, fun _ a h => by cases h⟩, trivial⟩
      · refine ⟨⟨some a, rfl, fun hp a' h => ?_⟩, trivial⟩
        cases h
        have hs := spot_row hp hc
        refine ⟨a.block, a.off, hs, ?_⟩
        rw [hs] at hc
        exact rdAt_of hc ⟨H, enc, sp, held, n, _, hy⟩
    · rename_i fs hu
      split at h
      · rename_i s hs
        cases hc : Nat.beq (P.cellsOf t) s.length with
        | false => rw [hc] at h; simp at h
        | true =>
          rw [hc] at h
          simp only [cond_true, Option.some.injEq] at h; subst h
          have hsz := Nat.eq_of_beq_eq_true hc
          obtain ⟨xs, n, _, _, hl, hxl, hel⟩ := DataW.trod_struct hu hx
          have := kindsFs_sound (base := base) ih cs fs.toList 0 s hs (by simp [hl, hsz]) (fun f hf => by
            obtain ⟨i, hi⟩ := List.mem_iff_getElem?.1 hf
            have hi' : fs[i]? = some f := by simpa using hi
            have hlt : i < xs.length := by rw [hxl]; exact (Array.getElem?_eq_some_iff.1 hi').1
            have := hel i f hi'
            rw [List.getElem?_eq_getElem hlt] at this
            exact ⟨H, enc, sp, held, n, _, this⟩)
          simpa using this
      · cases h
    · cases h

end Go.Eng
