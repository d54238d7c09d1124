/- Rows of cells as one list. -/
import Derived.Test.YtkjhpaeminegoaaEng16
import Derived.Test.YtkjhpaeminegoaaArr

namespace Go.Eng

/-- rows, one behind the other -/
def rowsL {α : Type} (f : Nat → List α) : Nat → List α
  | 0 => []
  | n + 1 => rowsL f n ++ f n

theorem rowsL_len {α : Type} {f : Nat → List α} {sz : Nat} (hf : ∀ i, (f i).length = sz) : ∀ n, (rowsL f n).length = n * sz
  | 0 => by simp [rowsL]
  | n + 1 => by rw [rowsL, List.length_append, rowsL_len hf n, hf, Nat.add_mul, Nat.one_mul]

theorem rowsL_at {α : Type} {f : Nat → List α} {sz : Nat} (hf : ∀ i, (f i).length = sz) {j : Nat} (hj : j < sz) : ∀ {n i : Nat}, i < n → (rowsL f n)[i * sz + j]? = (f i)[j]?
  | n + 1, i, hi => by
    rw [rowsL]
    by_cases e : i = n
    · subst e
      rw [List.getElem?_append_right (by rw [rowsL_len hf]; omega), rowsL_len hf]
      congr 1; omega
    · have hlt : i < n := by omega
      have := idx_lt (sz := sz) hlt hj
      rw [List.getElem?_append_left (by rw [rowsL_len hf]; exact this)]
      exact rowsL_at hf hj hlt

theorem rowsL_get {α : Type} {f : Nat → List α} {sz : Nat} (hf : ∀ i, (f i).length = sz) (hsz : 0 < sz) {n q : Nat} {c : α} (h : (rowsL f n)[q]? = some c) : q / sz < n ∧ q % sz < sz ∧ q = q / sz * sz + q % sz ∧ (f (q / sz))[q % sz]? = some c := by
  have hq : q < n * sz := by rw [← rowsL_len hf n]; exact (List.getElem?_eq_some_iff.1 h).1
  have h1 : q / sz < n := (Nat.div_lt_iff_lt_mul hsz).2 hq
  have h2 : q % sz < sz := Nat.mod_lt _ hsz
  have h3 : q = q / sz * sz + q % sz := by rw [Nat.div_add_mod']
  refine ⟨h1, h2, h3, ?_⟩
  rw [← rowsL_at hf h2 h1, ← h3]; exact h

theorem rowsL_all {α : Type} {f : Nat → List α} {p : α → Bool} (hf : ∀ i, (f i).all p = true) : ∀ n, (rowsL f n).all p = true
  | 0 => rfl
  | n + 1 => by rw [rowsL, List.all_append, rowsL_all hf n, hf]; rfl

end Go.Eng
