/- The ring's plain laws: each once, in the order of its first coming; a node more; all keepers. -/
import Derived.Test.YthaffebapmkppaaRi11

namespace Go.Proofs.Ythaffebapmkppaa
open Go Go.Eng Go.Sort

/-- each once, in the order of its first coming -/
def dd : List Int → List Int → List Int
  | [], out => out
  | x :: xs, out => dd xs (if x ∈ out then out else out ++ [x])

theorem dd_pre : ∀ (l out : List Int), out <+: dd l out
  | [], out => List.prefix_refl out
  | x :: l, out => by
    unfold dd
    refine List.IsPrefix.trans ?_ (dd_pre l _)
    split
    · exact List.prefix_refl out
    · exact List.prefix_append out [x]
theorem dd_mem : ∀ (l out : List Int) (y : Int), y ∈ dd l out ↔ y ∈ out ∨ y ∈ l
  | [], out, y => by simp [dd]
  | x :: l, out, y => by
    unfold dd
    rw [dd_mem l _ y]
    split
    · rename_i h
      constructor
      · rintro (h1 | h1)
        · exact .inl h1
        · exact .inr (List.mem_cons_of_mem _ h1)
      · rintro (h1 | h1)
        · exact .inl h1
        · rcases List.mem_cons.1 h1 with rfl | h1
          · exact .inl h
          · exact .inr h1
    · simp [or_assoc]
theorem dd_nodup : ∀ (l out : List Int), out.Nodup → (dd l out).Nodup
  | [], out, h => h
  | x :: l, out, h => by
    unfold dd
    refine dd_nodup l _ ?_
    split
    · exact h
    · rename_i hx
      refine List.nodup_append.2 ⟨h, by simp, fun a ha b hb e => ?_⟩
      subst e
      rw [List.mem_singleton.1 hb] at ha
      exact hx ha
theorem take_pre {l m : List Int} {n : Nat} (h : l <+: m) (hn : n ≤ l.length) : m.take n = l.take n := by
  obtain ⟨t, rfl⟩ := h
  rw [List.take_append_of_le_length hn]

theorem keepGo_dd (R : Nat → Int) (many : Int) : ∀ (k i : Nat) (out : List Int), out.length ≤ many.toNat → keepGo R many k i out = (dd ((List.range' i k).map R) out).take many.toNat
  | 0, i, out, h => by simp [keepGo, dd, List.take_of_length_le h]
  | k + 1, i, out, h => by
    unfold keepGo
    by_cases hm : many ≤ out.length
    · rw [if_pos hm, take_pre (dd_pre _ _) (by omega), List.take_of_length_le (by omega)]
    · rw [if_neg hm, keepGo_dd R many k (i + 1) _ (by split; exact h; simp; omega)]
      rw [List.range'_succ, List.map_cons, dd]

theorem comp_mem (d : Array Int) : ∀ (m : Nat), m ≤ d.size → ∀ y, y ∈ Go.Lib.compactUpTo d m ↔ ∃ j, j < m ∧ d[j]! = y
  | 0, _, y => by simp [Go.Lib.compactUpTo]
  | m + 1, hm, y => by
    rw [Go.Lib.compactUpTo_succ, List.mem_append, comp_mem d m (by omega) y]
    constructor
    · rintro (⟨j, h1, h2⟩ | h)
      · exact ⟨j, by omega, h2⟩
      · split at h
        · exact ⟨m, by omega, (List.mem_singleton.1 h).symm⟩
        · cases h
    · rintro ⟨j, h1, h2⟩
      by_cases hj : j < m
      · exact .inl ⟨j, hj, h2⟩
      · have : j = m := by omega
        subst this
        by_cases hk : Go.Lib.keeps d j = true
        · exact .inr (by rw [if_pos hk]; exact List.mem_singleton.2 h2.symm)
        · have hk : ¬ (j = 0 ∨ d[j]! ≠ d[j - 1]!) := by simpa [Go.Lib.keeps] using hk
          have h0 : j ≠ 0 := fun e => hk (.inl e)
          have he : d[j]! = d[j - 1]! := Classical.byContradiction fun e => hk (.inr e)
          exact .inl ⟨j - 1, by omega, by rw [← he, h2]⟩
theorem comp_lt (d : Array Int) (hs : ∀ i j, i ≤ j → j < d.size → d[i]! ≤ d[j]!) : ∀ (m : Nat), m ≤ d.size → (Go.Lib.compactUpTo d m).Pairwise (· < ·)
  | 0, _ => by simp [Go.Lib.compactUpTo]
  | m + 1, hm => by
    rw [Go.Lib.compactUpTo_succ]
    have ih := comp_lt d hs m (by omega)
    split
    · rename_i hk
      refine List.pairwise_append.2 ⟨ih, by simp, fun a ha b hb => ?_⟩
      rw [List.mem_singleton.1 hb]
      obtain ⟨j, h1, h2⟩ := (comp_mem d m (by omega) a).1 ha
      have hk : m = 0 ∨ d[m]! ≠ d[m - 1]! := by simpa [Go.Lib.keeps] using hk
      rcases hk with hk | hk
      · omega
      · have a1 := hs j (m - 1) (by omega) (by omega)
        have a2 := hs (m - 1) m (by omega) (by omega)
        omega
    · simpa using ih
theorem lt_eq {a b : List Int} (ha : a.Pairwise (· < ·)) (hb : b.Pairwise (· < ·)) (h : ∀ y, y ∈ a ↔ y ∈ b) : a = b := by
  have na : a.Nodup := ha.imp fun h => by omega
  have nb : b.Nodup := hb.imp fun h => by omega
  exact List.Perm.eq_of_pairwise (fun x y _ _ h1 h2 => by omega) ha hb ((List.perm_ext_iff_of_nodup na nb).2 h)
/-! ### the points of one node more -/
theorem srtA_le (d : Array Int) : ∀ i j, i ≤ j → j < (srtA d).size → (srtA d)[i]! ≤ (srtA d)[j]! := fun i j hij hj => by
  have hs : (srtA d).toList.Pairwise (fun x y => (!ltInt y x) = true) := List.pairwise_mergeSort (fun x y z h1 h2 => by
    simp only [ltInt, Bool.not_eq_true', decide_eq_false_iff_not] at h1 h2 ⊢
    omega) (fun x y => by
    simp only [ltInt, Bool.or_eq_true, Bool.not_eq_true', decide_eq_false_iff_not]
    omega) _
  rcases Nat.lt_or_ge i j with h | h
  · have := List.pairwise_iff_getElem.1 hs i j (by simpa using (by omega : i < (srtA d).size)) (by simpa using hj) h
    simp only [ltInt, Bool.not_eq_true', decide_eq_false_iff_not, Array.getElem_toList] at this
    rw [getElem!_pos _ i (by omega), getElem!_pos _ j hj]
    omega
  · have : i = j := by omega
    subst this
    exact Int.le_refl _
theorem ascA_lt (d : Array Int) : (ascA d).toList.Pairwise (· < ·) := comp_lt (srtA d) (srtA_le d) d.size (by rw [srtA_size]; exact Nat.le_refl _)
theorem ascA_iff (d : Array Int) (y : Int) : y ∈ (ascA d).toList ↔ y ∈ d.toList := by
  refine (comp_mem (srtA d) d.size (by rw [srtA_size]; exact Nat.le_refl _) y).trans ?_
  rw [← (srtA_perm d).mem_iff]
  constructor
  · rintro ⟨j, h1, rfl⟩
    have hj : j < (srtA d).size := by rw [srtA_size]; exact h1
    rw [getElem!_pos _ j hj]
    exact Array.getElem_mem_toList hj
  · intro h
    obtain ⟨j, hj⟩ := List.mem_iff_getElem?.1 h
    have hlt : j < (srtA d).size := by simpa using (List.getElem?_eq_some_iff.1 hj).1
    refine ⟨j, by rw [← srtA_size d]; exact hlt, ?_⟩
    rw [getElem!_pos _ j hlt]
    simpa [hlt] using hj
theorem ringP_sorted (d : Array Int) : (ringP d).Pairwise (fun x y => (!ltOf cfP y x) = true) := List.pairwise_mergeSort (fun x y z h1 h2 => by
    simp only [ltP, Bool.not_eq_true', decide_eq_false_iff_not] at h1 h2 ⊢
    omega) (fun x y => by
    simp only [ltP, Bool.or_eq_true, Bool.not_eq_true', decide_eq_false_iff_not]
    omega) _
theorem sorted_eq {a b : List (Int × Int)} (ha : a.Pairwise (fun x y => (!ltOf cfP y x) = true)) (hb : b.Pairwise (fun x y => (!ltOf cfP y x) = true)) (h : a.Perm b) : a = b :=
  List.Perm.eq_of_pairwise (fun x y _ _ h1 h2 => by
    simp only [ltP, Bool.not_eq_true', decide_eq_false_iff_not] at h1 h2
    exact Prod.ext (by omega) (by omega)) ha hb h
/-! ### the ring, turned to a key's place -/
def turnL (L : List (Int × Int)) (kh : Int) : List (Int × Int) := L.filter (fun p => decide (kh ≤ p.1)) ++ L.filter (fun p => !decide (kh ≤ p.1))
theorem split_mono (p : Int × Int → Bool) : ∀ (L : List (Int × Int)), L.Pairwise (fun x y => p x = true → p y = true) → L.take (L.countP fun x => !p x) = L.filter (fun x => !p x) ∧ L.drop (L.countP fun x => !p x) = L.filter p
  | [], _ => ⟨rfl, rfl⟩
  | x :: L, h => by
    obtain ⟨h1, h2⟩ := List.pairwise_cons.1 h
    obtain ⟨i1, i2⟩ := split_mono p L h2
    cases hx : p x with
    | false =>
      rw [List.countP_cons_of_pos (by simp [hx]), List.filter_cons_of_pos (by simp [hx]), List.filter_cons_of_neg (by simp [hx])]
      exact ⟨by rw [List.take_succ_cons, i1], by rw [List.drop_succ_cons, i2]⟩
    | true =>
      have hall : ∀ y ∈ L, p y = true := fun y hy => h1 y hy hx
      have h0 : L.countP (fun x => !p x) = 0 := List.countP_eq_zero.2 fun y hy => by simp [hall y hy]
      rw [List.countP_cons_of_neg (by simp [hx]), h0, List.filter_cons_of_neg (by simp [hx]), List.filter_cons_of_pos hx]
      refine ⟨?_, ?_⟩
      · rw [List.filter_eq_nil_iff.2 fun y hy => by simp [hall y hy]]
        rfl
      · rw [List.filter_eq_self.2 hall]
        rfl
theorem atP_count (L : List (Int × Int)) (kh : Int) : atP L kh = L.countP fun p => !decide (kh ≤ p.1) := by
  unfold atP
  have : L = (List.range L.length).map fun i => L[i]! := by
    apply List.ext_getElem
    · simp
    · intro i h1 h2
      simp [h1]
  conv => rhs; rw [this, List.countP_map]
  rfl
theorem rise_pair {L : List (Int × Int)} (h : Rise L) (kh : Int) : L.Pairwise (fun x y => decide (kh ≤ x.1) = true → decide (kh ≤ y.1) = true) := List.pairwise_iff_getElem.2 fun i j hi hj hij h1 => by
  have := h i j (by omega) hj
  rw [getElem!_pos _ i hi, getElem!_pos _ j hj] at this
  have h1 := of_decide_eq_true h1
  exact decide_eq_true (by omega)
theorem nodes_turn {L : List (Int × Int)} (h : Rise L) (kh : Int) : (List.range' 0 L.length).map (nodeAt L (atP L kh)) = (turnL L kh).map (·.2) := by
  obtain ⟨h1, h2⟩ := split_mono (fun p => decide (kh ≤ p.1)) L (rise_pair h kh)
  rw [← atP_count] at h1 h2
  have hle := atP_le L kh
  unfold turnL
  rw [← h1, ← h2]
  obtain ⟨s, hs⟩ : ∃ s, s = atP L kh := ⟨_, rfl⟩
  rw [← hs] at hle ⊢
  apply List.ext_getElem
  · simp; omega
  · intro i hi1 hi2
    have hi : i < L.length := by simpa using hi1
    simp only [List.getElem_map, List.getElem_range', Nat.zero_add, Nat.one_mul, nodeAt]
    rw [List.getElem_append]
    split
    · rename_i hlt
      have hlt : i < L.length - s := by simpa using hlt
      rw [Nat.mod_eq_of_lt (by omega), getElem!_pos _ _ (by omega), List.getElem_drop]
    · rename_i hge
      have hge : ¬ i < L.length - s := by simpa using hge
      have e : (s + i) % L.length = s + i - L.length := by rw [Nat.mod_eq_sub_mod (by omega), Nat.mod_eq_of_lt (by omega)]
      rw [e, getElem!_pos _ _ (by omega), List.getElem_take]
      congr 2
      simp
      omega
theorem keepL_eq {L : List (Int × Int)} (h : Rise L) (key many : Int) : keepL L key many = (dd ((turnL L (keyZ key)).map (·.2)) []).take many.toNat := by
  unfold keepL
  rw [keepGo_dd _ _ _ _ _ (by simp), nodes_turn h]
/-! ### all keepers -/
theorem ringP_mem (d : Array Int) (y : Int) : y ∈ (ringP d).map (·.2) ↔ y ∈ d.toList := by
  rw [List.mem_map, ← ascA_iff]
  constructor
  · rintro ⟨p, hp, rfl⟩
    obtain ⟨n, hn, h⟩ := List.mem_flatMap.1 ((ringP_perm d).mem_iff.1 hp)
    obtain ⟨v, _, rfl⟩ := List.mem_map.1 h
    exact hn
  · intro h
    exact ⟨(placeZ y (0 : Nat), y), (ringP_perm d).mem_iff.2 (List.mem_flatMap.2 ⟨y, h, List.mem_map.2 ⟨0, by simp, rfl⟩⟩), rfl⟩
theorem turn_mem (L : List (Int × Int)) (kh : Int) (p : Int × Int) : p ∈ turnL L kh ↔ p ∈ L := by
  unfold turnL
  rw [List.mem_append, List.mem_filter, List.mem_filter]
  by_cases h : kh ≤ p.1 <;> simp [h]
theorem nodes_mem (d : Array Int) (kh y : Int) : y ∈ (turnL (ringP d) kh).map (·.2) ↔ y ∈ d.toList := by
  refine Iff.trans ?_ (ringP_mem d y)
  simp only [List.mem_map, turn_mem]
theorem dd_len : ∀ (l out : List Int), (dd l out).length ≤ out.length + l.length
  | [], out => Nat.le_refl _
  | x :: l, out => by
    rw [dd]
    have := dd_len l (if x ∈ out then out else out ++ [x])
    have h2 : (if x ∈ out then out else out ++ [x]).length ≤ out.length + 1 := by split <;> simp
    simp only [List.length_cons]
    omega
end Go.Proofs.Ythaffebapmkppaa
