/- Rows of cells, one behind the other, of which an assertion tells. -/
import Derived.Test.YtkjhpaeminegoaaEng12

namespace Go.Eng

/-- n rows of sz cells each lie in block b -/
def ArrAt (b y sz n : Nat) (f : Nat → List Value) (w : World) : Prop :=
  ∀ s, s < n → (f s).length = sz ∧ ∀ (q : Nat) (v : Value), (f s)[q]? = some v → w.cell? ⟨b, y + (s * sz + q), none⟩ = some v ∧ w.frozen? ⟨b, y + (s * sz + q), none⟩ = false

/-- .. but for row i -/
def ArrBut (b y sz n i : Nat) (f : Nat → List Value) (w : World) : Prop :=
  ∀ s, s < n → s ≠ i → (f s).length = sz ∧ ∀ (q : Nat) (v : Value), (f s)[q]? = some v → w.cell? ⟨b, y + (s * sz + q), none⟩ = some v ∧ w.frozen? ⟨b, y + (s * sz + q), none⟩ = false

def arrD (b y m : Nat) : Nat → Nat → Prop := fun k o => k = b ∧ y ≤ o ∧ o < y + m
def arrDBut (b y m i sz : Nat) : Nat → Nat → Prop := fun k o => k = b ∧ y ≤ o ∧ o < y + m ∧ ¬ (y + i * sz ≤ o ∧ o < y + i * sz + sz)

theorem idx_lt {s n sz q : Nat} (hs : s < n) (hq : q < sz) : s * sz + q < n * sz := by
  have : (s + 1) * sz ≤ n * sz := Nat.mul_le_mul_right _ hs
  rw [Nat.add_mul, Nat.one_mul] at this
  omega

theorem idx_apart {s i sz q : Nat} (hs : s ≠ i) (hq : q < sz) : ¬ (i * sz ≤ s * sz + q ∧ s * sz + q < i * sz + sz) := by
  rintro ⟨h1, h2⟩
  rcases Nat.lt_or_ge s i with h | h
  · have : (s + 1) * sz ≤ i * sz := Nat.mul_le_mul_right _ h
    rw [Nat.add_mul, Nat.one_mul] at this
    omega
  · have h' : i < s := by omega
    have : (i + 1) * sz ≤ s * sz := Nat.mul_le_mul_right _ h'
    rw [Nat.add_mul, Nat.one_mul] at this
    omega

theorem ArrAt.loc {b y sz n : Nat} {f : Nat → List Value} : Loc (arrD b y (n * sz)) (ArrAt b y sz n f) := by
  refine Loc.cells fun w w' hk _ h s hs => ?_
  obtain ⟨h1, h2⟩ := h s hs
  refine ⟨h1, fun q v hq => ?_⟩
  have hlt : q < sz := by rw [← h1]; exact (List.getElem?_eq_some_iff.1 hq).1
  have hi := idx_lt (sz := sz) hs hlt
  obtain ⟨e1, e2⟩ := hk b (y + (s * sz + q)) ⟨rfl, by omega, by omega⟩
  rw [e1, e2]
  exact h2 q v hq

theorem ArrBut.loc {b y sz n i : Nat} {f : Nat → List Value} : Loc (arrDBut b y (n * sz) i sz) (ArrBut b y sz n i f) := by
  refine Loc.cells fun w w' hk _ h s hs hne => ?_
  obtain ⟨h1, h2⟩ := h s hs hne
  refine ⟨h1, fun q v hq => ?_⟩
  have hlt : q < sz := by rw [← h1]; exact (List.getElem?_eq_some_iff.1 hq).1
  have hi := idx_lt (sz := sz) hs hlt
  have ha := idx_apart (sz := sz) hne hlt
  obtain ⟨e1, e2⟩ := hk b (y + (s * sz + q)) ⟨rfl, by omega, by omega, by omega⟩
  rw [e1, e2]
  exact h2 q v hq

theorem ArrAt.there {b y sz n : Nat} {f : Nat → List Value} {w : World} (h : ArrAt b y sz n f w) (hsz : 0 < sz) : ∀ k o, arrD b y (n * sz) k o → (w.cell? ⟨k, o, none⟩).isSome = true := by
  rintro k o ⟨rfl, hy, ho⟩
  have hs : (o - y) / sz < n := (Nat.div_lt_iff_lt_mul hsz).2 (by omega)
  have hq : (o - y) % sz < sz := Nat.mod_lt _ hsz
  obtain ⟨h1, h2⟩ := h ((o - y) / sz) hs
  obtain ⟨v, hv⟩ : ∃ v, (f ((o - y) / sz))[(o - y) % sz]? = Option.some v := ⟨_, List.getElem?_eq_getElem (by omega)⟩
  have := (h2 _ v hv).1
  rw [Nat.div_add_mod' (o - y) sz, show y + (o - y) = o by omega] at this
  rw [this]; rfl

theorem ArrAt.stays {b y sz n : Nat} {f : Nat → List Value} {w w' : World} (h : ArrAt b y sz n f w) (hc : Chg (fun _ _ => False) w w') : ArrAt b y sz n f w' := fun s hs => by
  obtain ⟨h1, h2⟩ := h s hs
  refine ⟨h1, fun q v hq => ?_⟩
  obtain ⟨k1, k2⟩ := h2 q v hq
  exact ⟨cell_of_chg hc (by simp) k1, by rw [frozen_of_chg hc _ (by rw [k1]; rfl)]; exact k2⟩

theorem ArrAt.cells {b y sz n : Nat} {f : Nat → List Value} {w : World} (h : ArrAt b y sz n f w) {i : Nat} (hi : i < n) {cs : List SV} (hd : SV.denL [] cs = some (f i)) {N : Nums} : ∀ (j : Nat) (c : SV), cs[j]? = some c → ∃ v, c.den N = some v ∧ w.cell? ⟨b, y + i * sz + j, none⟩ = some v := fun j c hj => by
  obtain ⟨v, h1, h2⟩ := (SV.denL_get _ hd).2 j c hj
  exact ⟨v, SV.den_mono (N := []) (N' := N) (fun r p h => by simp at h) c h1, by rw [Nat.add_assoc]; exact ((h i hi).2 j v h2).1⟩

/-- row i replaced -/
def updA {α : Type} (f : Nat → α) (i : Nat) (x : α) : Nat → α := fun k => if k = i then x else f k

theorem X.focusArr {P : Program} {fn : Func} {Q : Ending → World → Prop} {W : World} {O : Nat → Nat → Prop} {im : Nat → Nat → Option Value} {N0 : Nums} {B : SchT} {b y sz n : Nat} {f : Nat → List Value} {cs : List SV} {k : List It} {s : St} (i : Nat) (hi : i < n) (hsz : 0 < sz) (hcl : cs.length = sz)
    (hcs : SV.denL [] cs = some (f i)) (hO : ∀ o, arrD b y (n * sz) b o → W.heap.size ≤ b ∨ O b o) (him : ∀ o, arrD b y (n * sz) b o → im b o = none) (hrg : ∀ g ∈ s.rg, g.own = true ∨ g.cells = [])
    (h : ∀ N : Nums, N0.le N → N.length = s.rg.length → X (mkE P fn Q W O im (arrDBut b y (n * sz) i sz) (ArrBut b y sz n i f) (N ++ [⟨b, y + i * sz, sz⟩]) B) k ⟨s.fr, s.rg ++ [⟨true, cs, none⟩]⟩) :
    X (mkE P fn Q W O im (arrD b y (n * sz)) (ArrAt b y sz n f) N0 B) k s := by
  have ix : ∀ j, j < cs.length → arrD b y (n * sz) b (y + i * sz + j) := fun j hj => by
    have := idx_lt (sz := sz) (q := j) hi (by omega)
    exact ⟨rfl, by omega, by omega⟩
  refine X.focus b (y + i * sz) cs (arrDBut b y (n * sz) i sz) (ArrBut b y sz n i f) (fun w hw j c hj => ?_) (by omega) ix (fun k o ⟨h1, h2, h3, h4⟩ => ⟨⟨h1, h2, h3⟩, fun ⟨_, h5, h6⟩ => h4 ⟨h5, by omega⟩⟩) ?_ (fun j hj => him _ (ix j hj)) hrg ArrBut.loc (fun w hw s hs _ => hw s hs) ?_
  · obtain ⟨v, h1, h2⟩ := (SV.denL_get _ hcs).2 j c hj
    obtain ⟨k1, k2⟩ := (hw i hi).2 j v h2
    exact ⟨v, h1, by rw [Nat.add_assoc]; exact k1, by rw [Nat.add_assoc]; exact k2⟩
  · by_cases e : W.heap.size ≤ b
    · exact .inl e
    · exact .inr fun j hj => (hO _ (ix j hj)).resolve_left e
  · intro N hN hlen
    subst hcl
    exact h N hN hlen

/-- .. and back again -/
theorem arr_back {E : Env} {N : Nums} {rg : List Rg} {w : World} {b y sz n i r : Nat} {f : Nat → List Value} {g : Rg} {vs : List Value} (hS : Sat E N rg w) (hR : ArrBut b y sz n i f w) (hg : rg[r]? = some g) (ho : g.own = true) (hp : N[r]? = some ⟨b, y + i * sz, sz⟩) (hd : SV.denL N g.cells = some vs) (hl : vs.length = sz) :
    ArrAt b y sz n (updA f i vs) w := by
  intro s hs
  by_cases e : s = i
  · subst e
    simp only [updA, if_true]
    refine ⟨hl, fun q v hq => ?_⟩
    have hlt : q < sz := by rw [← hl]; exact (List.getElem?_eq_some_iff.1 hq).1
    obtain ⟨c, hc⟩ : ∃ c, g.cells[q]? = some c := ⟨_, List.getElem?_eq_getElem (by rw [← (SV.denL_get _ hd).1]; omega)⟩
    obtain ⟨v', k1, k2⟩ := hS.cell r g _ hg hp q c hc
    obtain ⟨v2, k3, k4⟩ := (SV.denL_get _ hd).2 q c hc
    rw [k1] at k3; cases k3
    rw [hq] at k4; cases k4
    exact ⟨by rw [← Nat.add_assoc]; exact k2, by rw [← Nat.add_assoc]; exact (hS.room r g _ hg hp ho q hlt).2⟩
  · simp only [updA, e, if_false]
    exact hR s hs e

/-- rows, one behind the other -/
def flatL {α : Type} (f : Nat → List α) : Nat → List α
  | 0 => []
  | n + 1 => flatL f n ++ f n

theorem flatL_length {α : Type} {f : Nat → List α} {sz : Nat} : ∀ n, (∀ s, s < n → (f s).length = sz) → (flatL f n).length = n * sz
  | 0, _ => by simp [flatL]
  | n + 1, h => by rw [flatL, List.length_append, flatL_length n (fun s hs => h s (by omega)), h n (by omega), Nat.add_mul, Nat.one_mul]

theorem flatL_row {α : Type} {f : Nat → List α} {sz : Nat} : ∀ n, (∀ s, s < n → (f s).length = sz) → ∀ i, i < n → ((flatL f n).drop (i * sz)).take sz = f i
  | 0, _, i, hi => by omega
  | n + 1, h, i, hi => by
    have hl := flatL_length n (fun s hs => h s (by omega))
    rw [flatL]
    by_cases e : i = n
    · subst e
      rw [← hl, List.drop_left, List.take_of_length_le (by rw [h i (by omega)]; exact Nat.le_refl _)]
    · have hi' : i < n := by omega
      have hle : i * sz + sz ≤ n * sz := by
        have : (i + 1) * sz ≤ n * sz := Nat.mul_le_mul_right _ hi'
        rw [Nat.add_mul, Nat.one_mul] at this; exact this
      rw [List.drop_append_of_le_length (by omega), List.take_append_of_le_length (by simp; omega)]
      exact flatL_row n (fun s hs => h s (by omega)) i hi'

theorem flatL_get {α : Type} {f : Nat → List α} {sz n : Nat} (h : ∀ s, s < n → (f s).length = sz) {i q : Nat} (hi : i < n) (hq : q < sz) : (flatL f n)[i * sz + q]? = (f i)[q]? := by
  have := congrArg (fun l => l[q]?) (flatL_row n h i hi)
  simp only [List.getElem?_take, List.getElem?_drop, if_pos hq] at this
  exact this

theorem flatL_den {N : Nums} {f : Nat → List SV} {g : Nat → List Value} : ∀ n, (∀ s, s < n → SV.denL N (f s) = some (g s)) → SV.denL N (flatL f n) = some (flatL g n)
  | 0, _ => rfl
  | n + 1, h => SV.denL_append _ _ (flatL_den n (fun s hs => h s (by omega))) (h n (by omega))

theorem ArrAt.flat {b y sz n : Nat} {f : Nat → List Value} {w : World} (h : ArrAt b y sz n f w) (hsz : 0 < sz) (j : Nat) (v : Value) (hj : (flatL f n)[j]? = some v) : w.cell? ⟨b, y + j, none⟩ = some v := by
  have hl := flatL_length n (fun s hs => (h s hs).1)
  have hlt : j < n * sz := by rw [← hl]; exact (List.getElem?_eq_some_iff.1 hj).1
  have hs : j / sz < n := (Nat.div_lt_iff_lt_mul hsz).2 hlt
  have hq : j % sz < sz := Nat.mod_lt _ hsz
  have e : j / sz * sz + j % sz = j := Nat.div_add_mod' j sz
  have := flatL_get (fun s hs => (h s hs).1) hs hq
  rw [e] at this
  rw [this] at hj
  have := ((h _ hs).2 _ v hj).1
  rwa [e] at this

/-- an element of an array that is a value -/
theorem X.idxVal {E : Ctx} {all : Array Oper} {i : Nat} {rest : List Nat} {k : List It} {s : St} {o : Oper} {f : Fr} {t e : TypeId} {x ix : Operand} {cs : List SV} {n : Nat} {kd : IntKind} {ex : SI} (ho : nth all.toList i = some o) (hg : o.guard = none) (hop : o.op = .index t x ix) (hx : ev s.fr x = some (.agg cs)) (hi : ev s.fr ix = some (.int kd ex))
    (hu : E.P.underlying t = some (.array n e)) {q : Nat} (hq : ∀ w, (sizeOf e).run E.P w = .ok q w) (ha : ∀ w, (isAgg e).run E.P w = .ok true w) (z : Nat) (hz : ex.den = (z : Int)) (hlt : z < n) (rs : List SV) (hr : (cs.drop (z * q)).take q = rs) (hle : z * q + q ≤ cs.length)
    (hp : putO E.n s.fr o.dst (.val (.agg rs)) = some f) (hk : X E (.ops all rest :: k) ⟨f, s.rg⟩) : X E (.ops all (i :: rest) :: k) s := by
  refine X.value ho hg _ hp (fun N a w hN hfr hS => ?_) hk
  have hx' := ev_sound hfr hx
  have hi' := ev_sound hfr hi
  simp only [SV.den, Option.some.injEq] at hi'
  simp only [SV.den] at hx'
  cases hl : SV.denL N cs with
  | none => simp [hl] at hx'
  | some l =>
    simp only [hl, Option.some.injEq] at hx'
    obtain ⟨v, h1, h2⟩ := part_sound (P := E.P) (w := w) (N := N) (r := .agg rs) (off := z * q) (hq w) (ha w) hl (by
      unfold partV
      have : Nat.ble (z * q + q) cs.length = true := Nat.ble_eq_true_of_le hle
      rw [this]; simp [hr])
    refine ⟨v, h1, ?_⟩
    have hz0 : (0 : Int) ≤ z := by omega
    have hzn : (z : Int) < n := by omega
    simp only [execOp, hop, ← hx', ← hi', Instr.index, asIntOf, Sem.run_bind, Sem.run_pure, run_underlying hu, Result.andThen, hz, hz0, hzn, and_self, if_true, hq, Int.toNat_natCast, h2]

end Go.Eng
