/- The symbolic executor: structs compared, cell by cell. -/
import Derived.Test.YtkjhpaeminegoaaEng2
import Derived.Laws.StructEq

namespace Go.Eng

def aggT (P : Program) (t : Nat) : Bool :=
  match P.underlying t with
  | some (.struct _) => true
  | some (.array _ _) => true
  | _ => false

theorem run_isAgg {P : Program} {t : Nat} (h : (P.underlying t).isSome = true) (w : World) : (isAgg t).run P w = .ok (aggT P t) w := by
  obtain ⟨d, hd⟩ := Option.isSome_iff_exists.1 h
  simp only [isAgg, Sem.run_bind, run_underlying hd, Result.andThen, aggT, hd]
  cases d <;> rfl

theorem run_sizeOf {P : Program} {t : Nat} {i : TypeInfo} (h : P.info? t = some i) (w : World) : (sizeOf t).run P w = .ok i.size w := by
  simp [sizeOf, typeInfo, h, Result.andThen]

/-- the shape of a type whose values are compared cell by cell: true: an integer, false: a Bool -/
def shapeFs (sh : Nat → Option (List Bool)) : List Field → Nat → Option (List Bool)
  | [], _ => some []
  | f :: fs, o => bif decide (f.name ≠ "_") && Nat.beq f.offset o then
      match sh f.type with
      | some s => match shapeFs sh fs (o + s.length) with
        | some r => some (s ++ r)
        | none => none
      | none => none
    else none

def sized (P : Program) (t : Nat) (s : List Bool) : Option (List Bool) :=
  match P.info? t with
  | some i => bif Nat.beq i.size s.length then some s else none
  | none => none

def shapeOf (P : Program) : Nat → Nat → Option (List Bool)
  | 0, _ => none
  | m + 1, t => match P.underlying t with
    | some (.int _) => sized P t [true]
    | some .bool => sized P t [false]
    | some (.struct fs) => bif P.stoodInHeld t then none else match shapeFs (shapeOf P m) fs.toList 0 with
      | some s => sized P t s
      | none => none
    | _ => none

def Fit : List Bool → List Value → List Value → Prop
  | [], [], [] => True
  | true :: sh, u :: xs, v :: ys => (∃ k a b, u = .int k a ∧ v = .int k b) ∧ Fit sh xs ys
  | false :: sh, u :: xs, v :: ys => (∃ a b, u = .bool a ∧ v = .bool b) ∧ Fit sh xs ys
  | _, _, _ => False

def ceq : Value → Value → Bool
  | .int _ a, .int _ b => a == b
  | .bool a, .bool b => a == b
  | _, _ => false

def ceqL : List Value → List Value → Bool
  | u :: xs, v :: ys => ceq u v && ceqL xs ys
  | _, _ => true

theorem Fit.len : ∀ {sh : List Bool} {xs ys : List Value}, Fit sh xs ys → xs.length = sh.length ∧ ys.length = sh.length
  | [], [], [], _ => ⟨rfl, rfl⟩
  | true :: sh, u :: xs, v :: ys, h => by have := Fit.len h.2; simp [this]
  | false :: sh, u :: xs, v :: ys, h => by have := Fit.len h.2; simp [this]

theorem Fit.split : ∀ {s r : List Bool} {xs ys : List Value}, Fit (s ++ r) xs ys → ∃ x1 x2 y1 y2, xs = x1 ++ x2 ∧ ys = y1 ++ y2 ∧ Fit s x1 y1 ∧ Fit r x2 y2
  | [], r, xs, ys, h => ⟨[], xs, [], ys, rfl, rfl, trivial, h⟩
  | true :: s, r, u :: xs, v :: ys, h => by
    obtain ⟨x1, x2, y1, y2, rfl, rfl, h1, h2⟩ := Fit.split (s := s) h.2
    exact ⟨u :: x1, x2, v :: y1, y2, rfl, rfl, ⟨h.1, h1⟩, h2⟩
  | false :: s, r, u :: xs, v :: ys, h => by
    obtain ⟨x1, x2, y1, y2, rfl, rfl, h1, h2⟩ := Fit.split (s := s) h.2
    exact ⟨u :: x1, x2, v :: y1, y2, rfl, rfl, ⟨h.1, h1⟩, h2⟩
  | true :: s, r, [], _, h => h.elim
  | true :: s, r, _ :: _, [], h => h.elim
  | false :: s, r, [], _, h => h.elim
  | false :: s, r, _ :: _, [], h => h.elim

theorem ceqL_append : ∀ {s : List Bool} {x1 y1 : List Value} (x2 y2 : List Value), Fit s x1 y1 → ceqL (x1 ++ x2) (y1 ++ y2) = (ceqL x1 y1 && ceqL x2 y2)
  | [], [], [], x2, y2, _ => by simp [ceqL]
  | true :: s, u :: xs, v :: ys, x2, y2, h => by simp [ceqL, ceqL_append x2 y2 h.2, Bool.and_assoc]
  | false :: s, u :: xs, v :: ys, x2, y2, h => by simp [ceqL, ceqL_append x2 y2 h.2, Bool.and_assoc]

def mkV (agg : Bool) (xs : List Value) : Value := bif agg then .agg xs.toArray else xs.headD undef

theorem part_val {P : Program} {t : Nat} {agg : Bool} {n : Nat} {w : World} (hs : (sizeOf t).run P w = .ok n w) (ha : (isAgg t).run P w = .ok agg w) (pre x post : List Value) (hx : x.length = n) (h1 : agg = false → x.length = 1) :
    (part t (pre ++ (x ++ post)).toArray pre.length).run P w = .ok (mkV agg x) w := by
  cases agg with
  | true =>
    simp only [part, Sem.run_bind, ha, Result.andThen, if_true, hs, Sem.run_pure, mkV, cond_true]
    congr 2
    apply Array.ext'
    simp [← hx]
  | false =>
    have := h1 rfl
    match x, this with
    | [v], _ =>
      simp only [part, Sem.run_bind, ha, Result.andThen, Bool.false_eq_true, if_false, mkV, cond_false]
      simp

theorem sized_spec {P : Program} {t : Nat} {s r : List Bool} (h : sized P t s = some r) : r = s ∧ ∀ w, (sizeOf t).run P w = .ok s.length w := by
  unfold sized at h
  split at h
  · rename_i i hi
    cases hb : Nat.beq i.size s.length with
    | false => rw [hb] at h; simp at h
    | true =>
      rw [hb] at h
      simp only [cond_true, Option.some.injEq] at h; subst h
      exact ⟨rfl, fun w => by rw [run_sizeOf hi, Nat.eq_of_beq_eq_true hb]⟩
  · cases h

theorem shapeFs_sound {P : Program} {m : Nat} (ih : ∀ (t : Nat) (sh : List Bool), shapeOf P m t = some sh → (∀ w, (sizeOf t).run P w = .ok sh.length w) ∧ (P.underlying t).isSome = true ∧ (aggT P t = false → sh.length = 1) ∧
    ∀ (d : Nat), m ≤ d → ∀ (xs ys : List Value) (w : World), Fit sh xs ys → (Op.equalIn d t (mkV (aggT P t) xs) (mkV (aggT P t) ys)).run P w = .ok (ceqL xs ys) w) :
    ∀ (fs : List Field) (sh : List Bool) (px py : List Value), px.length = py.length → shapeFs (shapeOf P m) fs px.length = some sh → ∀ (d : Nat), m ≤ d → ∀ (xs ys : List Value) (w : World), Fit sh xs ys →
      (Op.eqFields d (px ++ xs).toArray (py ++ ys).toArray fs).run P w = .ok (ceqL xs ys) w
  | [], sh, px, py, _, h, d, hd, xs, ys, w, hf => by
    simp only [shapeFs, Option.some.injEq] at h; subst h
    match xs, ys, hf with
    | [], [], _ => simp [Op.eqFields, ceqL]
  | f :: fs, sh, px, py, hp, h, d, hd, xs, ys, w, hf => by
    simp only [shapeFs] at h
    cases hb : (decide (f.name ≠ "_") && Nat.beq f.offset px.length) with
    | false => rw [hb] at h; simp at h
    | true =>
      rw [hb] at h
      simp only [cond_true] at h
      simp only [Bool.and_eq_true, decide_eq_true_eq] at hb
      obtain ⟨hname, hoff⟩ := hb
      have hoff := Nat.eq_of_beq_eq_true hoff
      split at h
      · rename_i s hs
        split at h
        · rename_i r hr
          simp only [Option.some.injEq] at h; subst h
          obtain ⟨x1, x2, y1, y2, rfl, rfl, hf1, hf2⟩ := hf.split
          obtain ⟨k1, k2, k3, k4⟩ := ih _ _ hs
          have hl := hf1.len
          have hag := run_isAgg (P := P) k2 w
          have e1 := part_val (k1 w) hag px x1 x2 hl.1 (fun h => by rw [hl.1]; exact k3 h)
          have e2 := part_val (k1 w) hag py y1 y2 hl.2 (fun h => by rw [hl.2]; exact k3 h)
          simp only [Op.eqFields, if_pos hname, Sem.run_bind, hoff, e1, Result.andThen]
          rw [hp, e2]
          simp only [k4 d hd x1 y1 w hf1, Sem.run_ite]
          rw [ceqL_append x2 y2 hf1]
          cases hc : ceqL x1 y1 with
          | false => simp
          | true =>
            simp only [Bool.not_true, Bool.false_eq_true, if_false, Bool.true_and]
            have := shapeFs_sound ih fs r (px ++ x1) (py ++ y1) (by simp [hp, hl]) (by rw [List.length_append, hl.1]; exact hr) d hd x2 y2 w hf2
            simpa [List.append_assoc] using this
        · cases h
      · cases h

theorem shapeOf_sound {P : Program} : ∀ (m t : Nat) (sh : List Bool), shapeOf P m t = some sh → (∀ w, (sizeOf t).run P w = .ok sh.length w) ∧ (P.underlying t).isSome = true ∧ (aggT P t = false → sh.length = 1) ∧
    ∀ (d : Nat), m ≤ d → ∀ (xs ys : List Value) (w : World), Fit sh xs ys → (Op.equalIn d t (mkV (aggT P t) xs) (mkV (aggT P t) ys)).run P w = .ok (ceqL xs ys) w := by
  intro m
  induction m with
  | zero => intro t sh h; simp [shapeOf] at h
  | succ m ih =>
    intro t sh h
    simp only [shapeOf] at h
    split at h
    · rename_i k hu
      obtain ⟨rfl, hs⟩ := sized_spec h
      have ha : aggT P t = false := by simp [aggT, hu]
      refine ⟨hs, by simp [hu], fun _ => rfl, fun d hd xs ys w hf => ?_⟩
      obtain ⟨u, rfl⟩ := List.length_eq_one_iff.1 hf.len.1
      obtain ⟨v, rfl⟩ := List.length_eq_one_iff.1 hf.len.2
      obtain ⟨⟨k', a, b, rfl, rfl⟩, _⟩ := hf
      obtain ⟨d, rfl⟩ : ∃ d', d = d' + 1 := ⟨d - 1, by omega⟩
      rw [ha]
      simp only [mkV, cond_false, List.headD]
      rw [run_equalIn_int w d t k' k a b hu]
      simp [ceqL, ceq]
    · rename_i hu
      obtain ⟨rfl, hs⟩ := sized_spec h
      have ha : aggT P t = false := by simp [aggT, hu]
      refine ⟨hs, by simp [hu], fun _ => rfl, fun d hd xs ys w hf => ?_⟩
      obtain ⟨u, rfl⟩ := List.length_eq_one_iff.1 hf.len.1
      obtain ⟨v, rfl⟩ := List.length_eq_one_iff.1 hf.len.2
      obtain ⟨⟨a, b, rfl, rfl⟩, _⟩ := hf
      obtain ⟨d, rfl⟩ : ∃ d', d = d' + 1 := ⟨d - 1, by omega⟩
      rw [ha]
      simp only [mkV, cond_false, List.headD]
      rw [run_equalIn_bool' w d t a b hu]
      simp [ceqL, ceq]
    · rename_i fs hu
      cases hst : P.stoodInHeld t with
      | true => rw [hst] at h; simp at h
      | false =>
        rw [hst] at h
        simp only [cond_false] at h
        split at h
        · rename_i s hs
          obtain ⟨rfl, hsz⟩ := sized_spec h
          have ha : aggT P t = true := by simp [aggT, hu]
          have hfo : P.fieldsOf t = fs := by simp [Program.fieldsOf, hu]
          refine ⟨hsz, by simp [hu], fun e => (by rw [ha] at e; cases e), fun d hd xs ys w hf => ?_⟩
          obtain ⟨d, rfl⟩ : ∃ d', d = d' + 1 := ⟨d - 1, by omega⟩
          rw [ha]
          simp only [mkV, cond_true]
          rw [run_equalIn_struct w d t _ _ (by rw [hfo]; exact hu) hst, hfo]
          exact shapeFs_sound ih fs.toList sh [] [] rfl hs d (by omega) xs ys w hf
        · cases h
    · cases h

end Go.Eng
