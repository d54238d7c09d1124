/- The symbolic executor, part 1: symbolic values, frames, memory regions, and what they stand for in the model. -/
import Derived.WalkKit
import Derived.OrdersHeld
import Derived.KernelRfl

namespace Go.Eng

/-- what a bit operation comes to -/
def bitsI (op : BinOp) (k : IntKind) (x y : Int) : Int :=
  match op with
  | .and => k.wrap (BitVec.ofInt k.bits x &&& BitVec.ofInt k.bits y).toNat
  | .or => k.wrap (BitVec.ofInt k.bits x ||| BitVec.ofInt k.bits y).toNat
  | .xor => k.wrap (BitVec.ofInt k.bits x ^^^ BitVec.ofInt k.bits y).toNat
  | _ => k.wrap (BitVec.ofInt k.bits x &&& ~~~BitVec.ofInt k.bits y).toNat

inductive SI where
  | lit (z : Int)
  | v (x : Int)
  | nat (n : Nat)
  | add (a b : SI)
  | sub (a b : SI)
  | mul (a b : SI)
  | quo (a b : SI)
  | rem (a b : SI)
  | wrap (k : IntKind) (a : SI)
  | bits (op : BinOp) (k : IntKind) (a b : SI)
  | mx (a b : SI)
  | mn (a b : SI)
  | shl (a : SI) (n : Nat)
  | shr (a : SI) (n : Nat)
  deriving Inhabited

def SI.den : SI → Int
  | .lit z => z
  | .v x => x
  | .nat n => (n : Int)
  | .add a b => a.den + b.den
  | .sub a b => a.den - b.den
  | .mul a b => a.den * b.den
  | .quo a b => a.den.tdiv b.den
  | .rem a b => a.den.tmod b.den
  | .wrap k a => k.wrap a.den
  | .bits op k a b => bitsI op k a.den b.den
  | .mx a b => if a.den < b.den then b.den else a.den
  | .mn a b => if b.den < a.den then b.den else a.den
  | .shl a n => a.den * 2 ^ n
  | .shr a n => a.den.fdiv (2 ^ n)

inductive SB where
  | lit (b : Bool)
  | v (b : Bool)
  | eq (a b : SI)
  | ne (a b : SI)
  | lt (a b : SI)
  | le (a b : SI)
  | gt (a b : SI)
  | ge (a b : SI)
  | not (a : SB)
  | and (a b : SB)
  | or (a b : SB)
  | beq (a b : SB)
  deriving Inhabited

def SB.den : SB → Bool
  | .lit b => b
  | .v b => b
  | .eq a b => a.den == b.den
  | .ne a b => a.den != b.den
  | .lt a b => decide (a.den < b.den)
  | .le a b => decide (a.den ≤ b.den)
  | .gt a b => decide (b.den < a.den)
  | .ge a b => decide (b.den ≤ a.den)
  | .not a => !a.den
  | .and a b => a.den && b.den
  | .or a b => a.den || b.den
  | .beq a b => a.den == b.den

mutual
/-- that it is true, told plainly -/
def SB.T : SB → Prop
  | .lit b => b = true
  | .v b => b = true
  | .eq a b => a.den = b.den
  | .ne a b => a.den ≠ b.den
  | .lt a b => a.den < b.den
  | .le a b => a.den ≤ b.den
  | .gt a b => b.den < a.den
  | .ge a b => b.den ≤ a.den
  | .not a => a.F
  | .and a b => a.T ∧ b.T
  | .or a b => a.T ∨ b.T
  | .beq a b => a.den = b.den
/-- that it is false, told plainly -/
def SB.F : SB → Prop
  | .lit b => b = false
  | .v b => b = false
  | .eq a b => a.den ≠ b.den
  | .ne a b => a.den = b.den
  | .lt a b => b.den ≤ a.den
  | .le a b => b.den < a.den
  | .gt a b => a.den ≤ b.den
  | .ge a b => a.den < b.den
  | .not a => a.T
  | .and a b => a.F ∨ b.F
  | .or a b => a.F ∧ b.F
  | .beq a b => a.den ≠ b.den
end

theorem SB.TF : ∀ b : SB, (b.den = true ↔ b.T) ∧ (b.den = false ↔ b.F)
  | .lit b => by simp [SB.den, SB.T, SB.F]
  | .v b => by simp [SB.den, SB.T, SB.F]
  | .eq a b => by simp [SB.den, SB.T, SB.F]
  | .ne a b => by simp [SB.den, SB.T, SB.F]
  | .lt a b => by simp [SB.den, SB.T, SB.F]
  | .le a b => by simp [SB.den, SB.T, SB.F]
  | .gt a b => by simp [SB.den, SB.T, SB.F]
  | .ge a b => by simp [SB.den, SB.T, SB.F]
  | .not a => by simp only [SB.den, SB.T, SB.F, Bool.not_eq_true', Bool.not_eq_false']; exact ⟨(SB.TF a).2, (SB.TF a).1⟩
  | .and a b => by
    simp only [SB.den, SB.T, SB.F, Bool.and_eq_true, Bool.and_eq_false_iff, (SB.TF a).1, (SB.TF b).1, (SB.TF a).2, (SB.TF b).2, and_self]
  | .or a b => by
    simp only [SB.den, SB.T, SB.F, Bool.or_eq_true, Bool.or_eq_false_iff, (SB.TF a).1, (SB.TF b).1, (SB.TF a).2, (SB.TF b).2, and_self]
  | .beq a b => by simp [SB.den, SB.T, SB.F]

def one? : Value → Bool
  | .agg _ => false
  | .tuple _ => false
  | _ => true

inductive SV where
  | int (k : IntKind) (e : SI)
  | bool (c : SB)
  | own (r c : Nat)
  | ext (k x c : Nat)
  | sl (k x n c : Nat)
  | slv (p : Option Addr) (n c : Nat)
  | raw (v : Value)
  | big (a : Array Value)
  | agg (cs : List SV)
  | tup (cs : List SV)
  | osl (r c n z : Nat) (k : Option Nat)
  | fn (f : Nat) (cs : List SV)
  | mp (r : Nat)
  | ch (r : Nat)
  deriving Inhabited

/-- where a region lies: its block, its first cell, how many cells from there on are its own -/
structure Num where
  b : Nat
  o : Nat
  x : Nat

abbrev Nums := List Num

/-- how many elements there are -/
def Num.cap (p : Num) (c z : Nat) : Option Nat → Nat
  | some k => k
  | none => (p.x - c) / z

mutual
def SV.den (N : Nums) : SV → Option Value
  | .int k e => some (.int k e.den)
  | .bool c => some (.bool c.den)
  | .own r c => match N[r]? with
    | some p => some (.pointer (some ⟨p.b, p.o + c, none⟩))
    | none => none
  | .ext k x c => some (.pointer (some ⟨k, x + c, none⟩))
  | .sl k x n c => some (.slice (some ⟨k, x, none⟩) n c)
  | .slv p n c => some (.slice p n c)
  | .raw v => if one? v then some v else none
  | .big a => some (.agg a)
  | .agg cs => match SV.denL N cs with
    | some l => some (.agg l.toArray)
    | none => none
  | .tup cs => match SV.denL N cs with
    | some l => some (.tuple l.toArray)
    | none => none
  | .osl r c n z k => match N[r]? with
    | some p => some (.slice (some ⟨p.b, p.o + c, none⟩) n (p.cap c z k))
    | none => none
  | .fn f cs => match SV.denL N cs with
    | some l => some (.func (.func f) #[] l.toArray)
    | none => none
  | .mp r => match N[r]? with
    | some p => some (.map (some p.b))
    | none => none
  | .ch r => match N[r]? with
    | some p => some (.chan (some p.b))
    | none => none
def SV.denL (N : Nums) : List SV → Option (List Value)
  | [] => some []
  | c :: cs => match c.den N with
    | some v => match SV.denL N cs with
      | some l => some (v :: l)
      | none => none
    | none => none
end

def Nums.le (N N' : Nums) : Prop := ∀ (r : Nat) (p : Num), N[r]? = some p → N'[r]? = some p
theorem Nums.le.refl (N : Nums) : N.le N := fun _ _ h => h
theorem Nums.le.trans {A B C : Nums} (h : A.le B) (k : B.le C) : A.le C := fun r p e => k r p (h r p e)
theorem Nums.le_append (N M : Nums) : N.le (N ++ M) := fun r p h => by
  rw [List.getElem?_append_left (List.getElem?_eq_some_iff.1 h).1]; exact h

mutual
theorem SV.den_mono {N N' : Nums} (hN : N.le N') : ∀ (s : SV) {x : Value}, s.den N = some x → s.den N' = some x
  | .int _ _, x, h => h
  | .bool _, x, h => h
  | .own r c, x, h => by
    simp only [SV.den] at h ⊢
    cases hr : N[r]? with
    | none => simp [hr] at h
    | some p => rw [hN r p hr]; simpa [hr] using h
  | .ext _ _ _, x, h => h
  | .sl _ _ _ _, x, h => h
  | .slv _ _ _, x, h => h
  | .raw _, x, h => h
  | .big _, x, h => h
  | .agg cs, x, h => by
    simp only [SV.den] at h ⊢
    cases hl : SV.denL N cs with
    | none => simp [hl] at h
    | some l => rw [SV.denL_mono hN cs hl]; simpa [hl] using h
  | .tup cs, x, h => by
    simp only [SV.den] at h ⊢
    cases hl : SV.denL N cs with
    | none => simp [hl] at h
    | some l => rw [SV.denL_mono hN cs hl]; simpa [hl] using h
  | .osl r c n z k, x, h => by
    simp only [SV.den] at h ⊢
    cases hr : N[r]? with
    | none => simp [hr] at h
    | some p => rw [hN r p hr]; simpa [hr] using h
  | .fn f cs, x, h => by
    simp only [SV.den] at h ⊢
    cases hl : SV.denL N cs with
    | none => simp [hl] at h
    | some l => rw [SV.denL_mono hN cs hl]; simpa [hl] using h
  | .mp r, x, h => by
    simp only [SV.den] at h ⊢
    cases hr : N[r]? with
    | none => simp [hr] at h
    | some p => rw [hN r p hr]; simpa [hr] using h
  | .ch r, x, h => by
    simp only [SV.den] at h ⊢
    cases hr : N[r]? with
    | none => simp [hr] at h
    | some p => rw [hN r p hr]; simpa [hr] using h
theorem SV.denL_mono {N N' : Nums} (hN : N.le N') : ∀ (s : List SV) {x : List Value}, SV.denL N s = some x → SV.denL N' s = some x
  | [], x, h => h
  | c :: cs, x, h => by
    simp only [SV.denL] at h ⊢
    cases hc : c.den N with
    | none => simp [hc] at h
    | some v =>
      cases hl : SV.denL N cs with
      | none => simp [hc, hl] at h
      | some l => rw [SV.den_mono hN c hc, SV.denL_mono hN cs hl]; simpa [hc, hl] using h
end

theorem SV.denL_get {N : Nums} : ∀ (s : List SV) {l : List Value}, SV.denL N s = some l → l.length = s.length ∧ ∀ (j : Nat) (c : SV), s[j]? = some c → ∃ v, c.den N = some v ∧ l[j]? = some v
  | [], l, h => by simp only [SV.denL, Option.some.injEq] at h; subst h; simp
  | c :: cs, l, h => by
    simp only [SV.denL] at h
    cases hc : c.den N with
    | none => simp [hc] at h
    | some v =>
      cases hl : SV.denL N cs with
      | none => simp [hc, hl] at h
      | some m =>
        simp only [hc, hl, Option.some.injEq] at h; subst h
        obtain ⟨h1, h2⟩ := SV.denL_get cs hl
        refine ⟨by simp [h1], fun j d hj => ?_⟩
        cases j with
        | zero => simp at hj; subst hj; exact ⟨v, hc, rfl⟩
        | succ j => simp at hj ⊢; exact h2 j d hj

theorem SV.denL_of {N : Nums} : ∀ (s : List SV), (∀ (j : Nat) (c : SV), s[j]? = some c → ∃ v, c.den N = some v) → ∃ l, SV.denL N s = some l
  | [], _ => ⟨[], rfl⟩
  | c :: cs, h => by
    obtain ⟨v, hv⟩ := h 0 c rfl
    obtain ⟨l, hl⟩ := SV.denL_of cs (fun j d hj => h (j + 1) d (by simpa using hj))
    exact ⟨v :: l, by simp [SV.denL, hv, hl]⟩

theorem SV.denL_append {N : Nums} : ∀ (s t : List SV) {l m : List Value}, SV.denL N s = some l → SV.denL N t = some m → SV.denL N (s ++ t) = some (l ++ m)
  | [], t, l, m, h, k => by simp only [SV.denL, Option.some.injEq] at h; subst h; simpa using k
  | c :: cs, t, l, m, h, k => by
    simp only [SV.denL] at h
    cases hc : c.den N with
    | none => simp [hc] at h
    | some v =>
      cases hl : SV.denL N cs with
      | none => simp [hc, hl] at h
      | some q =>
        simp only [hc, hl, Option.some.injEq] at h; subst h
        simp [SV.denL, hc, SV.denL_append cs t hl k]

def SV.cells : SV → List SV
  | .agg cs => cs
  | v => [v]

/-- a scalar: one cell -/
def SV.one : SV → Bool
  | .int _ _ => true
  | .bool _ => true
  | .own _ _ => true
  | .ext _ _ _ => true
  | .sl _ _ _ _ => true
  | .slv _ _ _ => true
  | .raw _ => true
  | .osl _ _ _ _ _ => true
  | .fn _ _ => true
  | .mp _ => true
  | .ch _ => true
  | _ => false

theorem SV.one_spec {N : Nums} {s : SV} {x : Value} (h : s.one = true) (hd : s.den N = some x) : one? x = true ∧ x.cells = #[x] := by
  cases s <;> simp [SV.one] at h <;> simp only [SV.den] at hd
  case own r c => cases hr : N[r]? <;> simp [hr] at hd; subst hd; exact ⟨rfl, rfl⟩
  case osl r c n z k => cases hr : N[r]? <;> simp [hr] at hd; subst hd; exact ⟨rfl, rfl⟩
  case mp r => cases hr : N[r]? <;> simp [hr] at hd; subst hd; exact ⟨rfl, rfl⟩
  case ch r => cases hr : N[r]? <;> simp [hr] at hd; subst hd; exact ⟨rfl, rfl⟩
  case fn f cs => cases hr : SV.denL N cs <;> simp [hr] at hd; subst hd; exact ⟨rfl, rfl⟩
  case raw v =>
    split at hd
    · simp at hd; subst hd
      rename_i hv
      refine ⟨hv, ?_⟩
      cases v <;> first | rfl | simp [one?] at hv
    · simp at hd
  all_goals (simp at hd; subst hd; exact ⟨rfl, rfl⟩)

theorem beq_ne {a b : Nat} (h : a ≠ b) : Nat.beq a b = false := by
  cases e : Nat.beq a b with
  | false => rfl
  | true => exact absurd (Nat.eq_of_beq_eq_true e) h

/-! ### the frame -/
inductive FV where
  | val (v : SV)
  | opt (j : Nat) (w : Bool) (v : SV)
  | dead
  deriving Inhabited

abbrev Fr := List (Nat × FV)

def look : Fr → Nat → FV
  | [], _ => .dead
  | (k, v) :: r, t => bif Nat.beq k t then v else look r t

def FV.off (d : Nat) : FV → FV
  | .opt j w v => bif Nat.beq j d then .dead else .opt j w v
  | e => e

/-- what is left of a frame when slot d is written -/
def drop : Fr → Nat → Fr
  | [], _ => []
  | (k, v) :: r, d => bif Nat.beq k d then drop r d else (k, v.off d) :: drop r d

def upd (f : Fr) (d : Nat) (v : FV) : Fr := (d, v) :: drop f d

theorem look_drop (f : Fr) (d t : Nat) (h : d ≠ t) : look (drop f d) t = (look f t).off d := by
  induction f with
  | nil => rfl
  | cons p r ih =>
    obtain ⟨k, x⟩ := p
    by_cases hk : k = d
    · subst hk
      simp only [drop, Nat.beq_refl, cond_true, look, beq_ne h, cond_false]
      exact ih
    · simp only [drop, beq_ne hk, cond_false, look]
      by_cases hkt : k = t
      · subst hkt; simp
      · simp only [beq_ne hkt, cond_false]; exact ih

theorem look_upd_same (f : Fr) (d : Nat) (v : FV) : look (upd f d v) d = v := by simp [upd, look]
theorem look_upd_ne (f : Fr) (d t : Nat) (v : FV) (h : d ≠ t) : look (upd f d v) t = (look f t).off d := by
  simp only [upd, look, beq_ne h, cond_false]; exact look_drop f d t h

/-- what is no row of cells: a map, a channel -/
inductive Ob where
  | map (es : List (SV × SV × Nat)) (clock : Nat)
  | chan (cap : Nat) (buf : List SV) (closed : Bool) (sent rcvd : Nat)
  deriving Inhabited

def denEs (N : Nums) : List (SV × SV × Nat) → Option (List MapEntry)
  | [] => some []
  | (k, v, b) :: r => match k.den N, v.den N, denEs N r with
    | some k, some v, some l => some (⟨k, v, b⟩ :: l)
    | _, _, _ => none

def Ob.den (N : Nums) : Ob → Option Obj
  | .map es c => match denEs N es with
    | some l => some (.map l.toArray c)
    | none => none
  | .chan cap buf cl s r => match SV.denL N buf with
    | some l => some (.chan cap l.toArray cl s r false)
    | none => none

theorem denEs_mono {N N' : Nums} (hN : N.le N') : ∀ (es : List (SV × SV × Nat)) {l : List MapEntry}, denEs N es = some l → denEs N' es = some l
  | [], _, h => h
  | (k, v, b) :: r, l, h => by
    simp only [denEs] at h ⊢
    cases hk : k.den N with
    | none => simp [hk] at h
    | some k' =>
      cases hv : v.den N with
      | none => simp [hk, hv] at h
      | some v' =>
        cases hr : denEs N r with
        | none => simp [hk, hv, hr] at h
        | some l' => rw [SV.den_mono hN k hk, SV.den_mono hN v hv, denEs_mono hN r hr]; simpa [hk, hv, hr] using h

theorem Ob.den_mono {N N' : Nums} (hN : N.le N') (ob : Ob) {x : Obj} (h : ob.den N = some x) : ob.den N' = some x := by
  cases ob with
  | map es c =>
    simp only [Ob.den] at h ⊢
    cases hl : denEs N es with
    | none => simp [hl] at h
    | some l => rw [denEs_mono hN es hl]; simpa [hl] using h
  | chan cap buf cl s r =>
    simp only [Ob.den] at h ⊢
    cases hl : SV.denL N buf with
    | none => simp [hl] at h
    | some l => rw [SV.denL_mono hN buf hl]; simpa [hl] using h

/-- a region: a row of cells (one's own, or only read), or an object of one's own -/
structure Rg where
  own : Bool
  cells : List SV
  ob : Option Ob := none
  deriving Inhabited

structure St where
  fr : Fr
  rg : List Rg
  deriving Inhabited

def FV.ok (N : Nums) (a : Act) (t : Nat) : FV → Prop
  | .val v => ∃ x, v.den N = some x ∧ a.tmps[t]? = some x
  | .opt j w v => (a.tmps[j]? = some (.bool w) → ∃ x, v.den N = some x ∧ a.tmps[t]? = some x) ∧ (¬ a.tmps[j]? = some (.bool w) → a.tmps[t]? = some undef)
  | .dead => True

structure FrOk (n : Nat) (N : Nums) (f : Fr) (a : Act) : Prop where
  size : a.tmps.size = n
  defers : a.defers = []
  ok : ∀ t, (look f t).ok N a t

theorem FV.ok_mono {N N' : Nums} {a : Act} {t : Nat} (hN : N.le N') {e : FV} (h : e.ok N a t) : e.ok N' a t := by
  cases e with
  | val v => obtain ⟨x, h1, h2⟩ := h; exact ⟨x, SV.den_mono hN v h1, h2⟩
  | opt j w v => exact ⟨fun e => let ⟨x, h1, h2⟩ := h.1 e; ⟨x, SV.den_mono hN v h1, h2⟩, h.2⟩
  | dead => trivial

theorem FrOk.mono {n : Nat} {N N' : Nums} {f : Fr} {a : Act} (hN : N.le N') (h : FrOk n N f a) : FrOk n N' f a :=
  ⟨h.size, h.defers, fun t => FV.ok_mono hN (h.ok t)⟩

theorem FrOk.put {n : Nat} {N : Nums} {f : Fr} {a : Act} {d : Nat} {e : FV} {x : Value} (h : FrOk n N f a) (hd : d < n) (he : e.ok N (a.put (some d) x) d) :
    FrOk n N (upd f d e) (a.put (some d) x) := by
  refine ⟨by simpa [Act.put] using h.size, by simpa [Act.put] using h.defers, fun t => ?_⟩
  by_cases hdt : d = t
  · subst hdt; rw [look_upd_same]; exact he
  · rw [look_upd_ne _ _ _ _ hdt]
    have keep : ∀ j, d ≠ j → (a.put (some d) x).tmps[j]? = a.tmps[j]? := fun j hj => by
      simp only [Act.put]; rw [Array.getElem?_setIfInBounds_ne hj]
    have := h.ok t
    cases hl : look f t with
    | val v => rw [hl] at this; obtain ⟨y, h1, h2⟩ := this; exact ⟨y, h1, by rw [keep t hdt]; exact h2⟩
    | dead => trivial
    | opt j w v =>
      rw [hl] at this
      simp only [FV.off]
      by_cases hj : j = d
      · subst hj; simp; trivial
      · simp only [beq_ne hj, cond_false]
        show (_ → _) ∧ (_ → _)
        rw [keep t hdt, keep j (fun e => hj e.symm)]
        exact this

theorem FrOk.put_val {n : Nat} {N : Nums} {f : Fr} {a : Act} {d : Nat} {s : SV} {x : Value} (h : FrOk n N f a) (hd : d < n) (hs : s.den N = some x) :
    FrOk n N (upd f d (.val s)) (a.put (some d) x) :=
  h.put hd ⟨x, hs, by simp [Act.put, h.size, hd]⟩

def ofVal : Value → SV
  | .int k z => .int k (.lit z)
  | .bool b => .bool (.lit b)
  | v => .raw v

theorem ofVal_den {N : Nums} {v : Value} (h : one? v = true) : (ofVal v).den N = some v := by
  cases v <;> simp [ofVal, SV.den, SI.den, SB.den, one?] at h ⊢

/-- an operand that is not a slot -/
def evC : Operand → Option SV
  | .tmp _ => none
  | .const v => bif one? v then some (ofVal v) else none
  | .global g => some (.ext g 0 0)
  | .func g => some (.raw (.func (.func g) #[] #[]))

theorem evC_sound {N : Nums} {a : Act} {o : Operand} {s : SV} (he : evC o = some s) : s.den N = some (a.eval o) := by
  cases o with
  | tmp t => simp [evC] at he
  | const v =>
    simp only [evC] at he
    cases hv : one? v with
    | false => simp [hv] at he
    | true => simp [hv] at he; subst he; simpa [Act.eval] using ofVal_den hv
  | global g => simp [evC] at he; subst he; simp [SV.den, Act.eval]
  | func g => simp [evC] at he; subst he; simp [SV.den, Act.eval, one?]

/-- an operand, in a frame -/
def ev (f : Fr) : Operand → Option SV
  | .tmp t => match look f t with
    | .val v => some v
    | _ => none
  | o => evC o

theorem ev_sound {n : Nat} {N : Nums} {f : Fr} {a : Act} (h : FrOk n N f a) {o : Operand} {s : SV} (he : ev f o = some s) : s.den N = some (a.eval o) := by
  cases o with
  | tmp t =>
    simp only [ev] at he
    have := h.ok t
    cases hl : look f t with
    | val v =>
      rw [hl] at this he
      simp at he; subst he
      obtain ⟨x, h1, h2⟩ := this
      simp [Act.eval, h2, h1]
    | opt j w v => rw [hl] at he; simp at he
    | dead => rw [hl] at he; simp at he
  | const v => exact evC_sound he
  | global g => exact evC_sound he
  | func g => exact evC_sound he

/-- that slot k holds the Bool w implies that slot j holds the Bool x -/
def imp (f : Fr) : Nat → Nat → Bool → Nat → Bool → Bool
  | 0, _, _, _, _ => false
  | m + 1, k, w, j, x => (Nat.beq k j && (w == x)) ||
    match look f k with
    | .opt j' w' _ => imp f m j' w' j x
    | _ => false

theorem imp_sound {n : Nat} {N : Nums} {f : Fr} {a : Act} (h : FrOk n N f a) : ∀ (m k : Nat) (w : Bool) (j : Nat) (x : Bool), imp f m k w j x = true → a.tmps[k]? = some (.bool w) → a.tmps[j]? = some (.bool x)
  | 0, _, _, _, _, hi, _ => by simp [imp] at hi
  | m + 1, k, w, j, x, hi, hk => by
    simp only [imp, Bool.or_eq_true, Bool.and_eq_true, beq_iff_eq] at hi
    rcases hi with ⟨h1, h2⟩ | hi
    · have := Nat.eq_of_beq_eq_true h1; subst this; subst h2; exact hk
    · have hok := h.ok k
      cases hl : look f k with
      | val v => rw [hl] at hi; simp at hi
      | dead => rw [hl] at hi; simp at hi
      | opt j' w' v =>
        rw [hl] at hi hok
        have h2 := hok.2
        rw [hk] at h2
        refine imp_sound h m j' w' j x hi ?_
        by_cases hj : a.tmps[j']? = some (.bool w')
        · exact hj
        · have := h2 hj; simp [undef] at this

/-- an operand, where slot k is known to hold the Bool w -/
def evG (f : Fr) (k : Nat) (w : Bool) : Operand → Option SV
  | .tmp t => match look f t with
    | .val v => some v
    | .opt j x v => bif imp f 40 k w j x then some v else none
    | .dead => none
  | o => evC o

theorem evG_sound {n : Nat} {N : Nums} {f : Fr} {a : Act} {k : Nat} {w : Bool} (h : FrOk n N f a) (hk : a.tmps[k]? = some (.bool w)) {o : Operand} {s : SV} (he : evG f k w o = some s) : s.den N = some (a.eval o) := by
  cases o with
  | tmp t =>
    simp only [evG] at he
    have := h.ok t
    cases hl : look f t with
    | val v =>
      rw [hl] at this he
      simp at he; subst he
      obtain ⟨x, h1, h2⟩ := this
      simp [Act.eval, h2, h1]
    | opt j x v =>
      rw [hl] at this he
      simp only at he
      cases hi : imp f 40 k w j x with
      | false => rw [hi] at he; simp at he
      | true =>
        rw [hi] at he; simp at he; subst he
        obtain ⟨y, h1, h2⟩ := this.1 (imp_sound h 40 k w j x hi hk)
        simp [Act.eval, h2, h1]
    | dead => rw [hl] at he; simp at he
  | const v => exact evC_sound he
  | global g => exact evC_sound he
  | func g => exact evC_sound he

/-! ### memory -/
structure Chg (O : Nat → Nat → Prop) (w w' : World) : Prop where
  os : w'.os = w.os
  tape : w'.tape = w.tape
  output : w'.output = w.output
  size : w.heap.size ≤ w'.heap.size
  same : ∀ (k : Nat), k < w.heap.size → (∀ o, ¬ O k o) → w'.heap[k]? = w.heap[k]?
  cells : ∀ (k : Nat) c e f, w.heap[k]? = some (.cells c e f) → ∃ c', w'.heap[k]? = some (.cells c' e f) ∧ c'.size = c.size ∧ ∀ o, ¬ O k o → c'[o]? = c[o]?

theorem Chg.refl (O : Nat → Nat → Prop) (w : World) : Chg O w w := ⟨rfl, rfl, rfl, Nat.le_refl _, fun _ _ _ => rfl, fun _ c _ _ h => ⟨c, h, rfl, fun _ _ => rfl⟩⟩

theorem Chg.trans {O O' : Nat → Nat → Prop} {a b c : World} (h : Chg O a b) (k : Chg O' b c) (hO : ∀ i o, i < a.heap.size → O' i o → O i o) : Chg O a c := by
  refine ⟨k.os.trans h.os, k.tape.trans h.tape, k.output.trans h.output, Nat.le_trans h.size k.size, fun i hi hn => ?_, fun i cs e f hc => ?_⟩
  · rw [k.same i (Nat.lt_of_lt_of_le hi h.size) (fun o ho => hn o (hO i o hi ho)), h.same i hi hn]
  · have hi : i < a.heap.size := by
      rcases Nat.lt_or_ge i a.heap.size with h' | h'
      · exact h'
      · simp [Array.getElem?_eq_none h'] at hc
    obtain ⟨c1, h1, h2, h3⟩ := h.cells i cs e f hc
    obtain ⟨c2, k1, k2, k3⟩ := k.cells i c1 e f h1
    exact ⟨c2, k1, k2.trans h2, fun o ho => (k3 o (fun x => ho (hO i o hi x))).trans (h3 o ho)⟩

theorem Chg.mono {O O' : Nat → Nat → Prop} {a b : World} (h : Chg O a b) (hO : ∀ i o, i < a.heap.size → O i o → O' i o) : Chg O' a b := by
  refine ⟨h.os, h.tape, h.output, h.size, fun k hk hn => h.same k hk (fun o ho => hn o (hO k o hk ho)), fun k c e f hc => ?_⟩
  have hk : k < a.heap.size := by
    rcases Nat.lt_or_ge k a.heap.size with h' | h'
    · exact h'
    · simp [Array.getElem?_eq_none h'] at hc
  obtain ⟨c1, h1, h2, h3⟩ := h.cells k c e f hc
  exact ⟨c1, h1, h2, fun o ho => h3 o (fun x => ho (hO k o hk x))⟩

theorem Chg.drew {O : Nat → Nat → Prop} {a w : World} (h : Chg O a w) : Chg O a w.drew := ⟨h.os, h.tape, h.output, h.size, h.same, h.cells⟩

theorem Chg.alloc {O : Nat → Nat → Prop} {a w : World} (h : Chg O a w) (o : Obj) : Chg O a (w.alloc o) := by
  have e : ∀ k, k < w.heap.size → (w.alloc o).heap[k]? = w.heap[k]? := fun k hk => by
    show (w.heap.push o)[k]? = _
    rw [Array.getElem?_push, if_neg (by omega)]
  have lt : ∀ {k x}, w.heap[k]? = some x → k < w.heap.size := fun hx => (Array.getElem?_eq_some_iff.1 hx).1
  refine ⟨h.os, h.tape, h.output, by simp; have := h.size; omega, fun k hk hn => ?_, fun k c e' f hc => ?_⟩
  · rw [e k (Nat.lt_of_lt_of_le hk h.size)]; exact h.same k hk hn
  · obtain ⟨c', h1, h2, h3⟩ := h.cells k c e' f hc
    exact ⟨c', by rw [e k (lt h1)]; exact h1, h2, h3⟩

theorem Chg.setCell {O : Nat → Nat → Prop} {a w : World} (h : Chg O a w) {k o : Nat} (ho : a.heap.size ≤ k ∨ O k o) (v : Value) : Chg O a (w.setCell ⟨k, o, none⟩ v) := by
  refine ⟨h.os, h.tape, h.output, by simpa [World.setCell] using h.size, fun i hi hn => ?_, fun i c e f hc => ?_⟩
  · have hne : i ≠ k := fun e => by subst e; rcases ho with ho | ho; omega; exact hn o ho
    simp only [World.setCell, Array.getElem?_modify]
    rw [if_neg (fun e => hne e.symm)]
    exact h.same i hi hn
  · have hi : i < a.heap.size := (Array.getElem?_eq_some_iff.1 hc).1
    obtain ⟨c', h1, h2, h3⟩ := h.cells i c e f hc
    simp only [World.setCell, Array.getElem?_modify]
    by_cases hik : k = i
    · subst hik
      refine ⟨c'.setIfInBounds o v, by simp [h1], by simpa using h2, fun j hj => ?_⟩
      have : o ≠ j := fun e => by subst e; rcases ho with ho | ho; omega; exact hj ho
      rw [Array.getElem?_setIfInBounds_ne this]
      exact h3 j hj
    · rw [if_neg hik]; exact ⟨c', h1, h2, h3⟩

theorem Chg.setObj {O : Nat → Nat → Prop} {a w : World} (h : Chg O a w) {k : Nat} (hk : a.heap.size ≤ k) (o : Obj) : Chg O a { w with heap := w.heap.setIfInBounds k o } := by
  refine ⟨h.os, h.tape, h.output, by simpa using h.size, fun i hi hn => ?_, fun i c e f hc => ?_⟩
  · rw [Array.getElem?_setIfInBounds_ne (by omega)]
    exact h.same i hi hn
  · have hi : i < a.heap.size := (Array.getElem?_eq_some_iff.1 hc).1
    obtain ⟨c', h1, h2, h3⟩ := h.cells i c e f hc
    exact ⟨c', by rw [Array.getElem?_setIfInBounds_ne (by omega)]; exact h1, h2, h3⟩

end Go.Eng
