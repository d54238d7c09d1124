/- The symbolic executor, part 3: types, and what each operation does to symbolic values. -/
import Derived.Test.YtkjhpaeminegoaaEngE

namespace Go.Eng

/-! ### types -/
inductive TK where
  | other | bool | string | pointer
  | int (k : IntKind)
  | struct (fs : List (Nat × Nat × Bool))
  | array (n e : Nat)
  | slice (e : Nat)
  | map (k e : Nat)
  | chan (e : Nat)
  deriving Inhabited

structure TI where
  agg : Bool
  size : Nat
  bytes : Nat
  zero : List SV
  kind : TK
  eqs : Option (List Bool) := none
  deriving Inhabited

abbrev Tab := List (Nat × TI)

def lookT : Tab → Nat → Option TI
  | [], _ => none
  | (k, v) :: r, t => bif Nat.beq k t then some v else lookT r t

def TK.okT (P : Program) (t : Nat) : TK → Prop
  | .other => True
  | .bool => P.underlying t = some .bool
  | .string => P.underlying t = some .string
  | .pointer => ∃ e, P.underlying t = some (.pointer e)
  | .int k => P.underlying t = some (.int k)
  | .struct fs => ∃ fields, P.underlying t = some (.struct fields) ∧ fs = fields.toList.map (fun f => (f.offset, P.cellsOf f.type, aggT P f.type)) ∧
      ∀ f ∈ fields.toList, (P.info? f.type).isSome = true ∧ (P.underlying f.type).isSome = true
  | .array n e => P.underlying t = some (.array n e)
  | .slice e => P.underlying t = some (.slice e)
  | .map k e => P.underlying t = some (.map k e)
  | .chan e => ∃ d, P.underlying t = some (.chan d e)

structure TI.okT (P : Program) (t : Nat) (ti : TI) : Prop where
  size : ∀ w, (sizeOf t).run P w = .ok ti.size w
  info : ∃ i, P.info? t = some i ∧ i.bytes = ti.bytes
  agg : ∀ w, (isAgg t).run P w = .ok ti.agg w
  zero : ∃ z, (∀ w, (zeroValue t).run P w = .ok z w) ∧ SV.denL [] ti.zero = some z.cells.toList
  kind : ti.kind.okT P t
  eqs : ∀ sh, ti.eqs = some sh → P.eqGuardType P.depth t = false ∧ ∀ (xs ys : List Value) (w : World), Fit sh xs ys → (Op.equalIn 10000 t (.agg xs.toArray) (.agg ys.toArray)).run P w = .ok (ceqL xs ys) w

/-- of which structs it is known that they are compared cell by cell -/
def eqShape (P : Program) (t : Nat) : Option (List Bool) := bif aggT P t && !P.eqGuardType P.depth t then shapeOf P 16 t else none

theorem eqShape_sound {P : Program} {t : Nat} {sh : List Bool} (h : eqShape P t = some sh) : P.eqGuardType P.depth t = false ∧ ∀ (xs ys : List Value) (w : World), Fit sh xs ys → (Op.equalIn 10000 t (.agg xs.toArray) (.agg ys.toArray)).run P w = .ok (ceqL xs ys) w := by
  unfold eqShape at h
  cases hb : (aggT P t && !P.eqGuardType P.depth t) with
  | false => rw [hb] at h; simp at h
  | true =>
    rw [hb] at h
    simp only [cond_true] at h
    simp only [Bool.and_eq_true, Bool.not_eq_true'] at hb
    refine ⟨hb.2, fun xs ys w hf => ?_⟩
    obtain ⟨_, _, _, h4⟩ := shapeOf_sound _ _ _ h
    have := h4 10000 (by omega) xs ys w hf
    rw [hb.1] at this
    simpa [mkV] using this

def Tab.ok (P : Program) (T : Tab) : Prop := ∀ t ti, lookT T t = some ti → ti.okT P t

def kindOf (P : Program) (t : Nat) : TK :=
  match P.underlying t with
  | some .bool => .bool
  | some .string => .string
  | some (.pointer _) => .pointer
  | some (.int k) => .int k
  | some (.struct fields) =>
    if fields.toList.all (fun f => (P.info? f.type).isSome && (P.underlying f.type).isSome) then .struct (fields.toList.map (fun f => (f.offset, P.cellsOf f.type, aggT P f.type))) else .other
  | some (.array n e) => .array n e
  | some (.slice e) => .slice e
  | some (.map k e) => .map k e
  | some (.chan _ e) => .chan e
  | _ => .other

def TI.of (P : Program) (t : Nat) : Option TI :=
  match P.info? t with
  | some i => match i.zero with
    | some z => if (P.underlying t).isSome && z.cells.toList.all one? then some ⟨aggT P t, i.size, i.bytes, z.cells.toList.map ofVal, kindOf P t, eqShape P t⟩ else none
    | none => none
  | none => none

theorem denL_ofVal {N : Nums} : ∀ (l : List Value), l.all one? = true → SV.denL N (l.map ofVal) = some l
  | [], _ => rfl
  | v :: l, h => by
    simp only [List.all_cons, Bool.and_eq_true] at h
    simp [SV.denL, ofVal_den h.1, denL_ofVal l h.2]

theorem TI.of_ok {P : Program} {t : Nat} {ti : TI} (h : TI.of P t = some ti) : ti.okT P t := by
  unfold TI.of at h
  split at h
  · rename_i i hi
    split at h
    · rename_i z hz
      split at h
      · rename_i hc
        simp only [Bool.and_eq_true] at hc
        simp only [Option.some.injEq] at h; subst h
        refine ⟨fun w => run_sizeOf hi w, ⟨i, hi, rfl⟩, fun w => run_isAgg hc.1 w, ⟨z, fun w => by simp [zeroValue, typeInfo, hi, hz, Result.andThen], denL_ofVal _ hc.2⟩, ?_, fun sh h => eqShape_sound h⟩
        simp only [kindOf]
        obtain ⟨d, hd⟩ := Option.isSome_iff_exists.1 hc.1
        rw [hd]
        cases d <;> simp only <;> first | exact hd | exact ⟨_, hd⟩ | trivial | skip
        split
        · rename_i ha
          refine ⟨_, hd, rfl, fun f hf => ?_⟩
          have := List.all_eq_true.1 ha f hf
          simpa using this
        · trivial
      · cases h
    · cases h
  · cases h

def okL (P : Program) : Tab → Prop
  | [] => True
  | (t, ti) :: r => TI.of P t = some ti ∧ okL P r

theorem Tab.ok_of {P : Program} : ∀ (T : Tab), okL P T → Tab.ok P T
  | [], _, t, ti, h => by simp [lookT] at h
  | (k, v) :: r, hl, t, ti, h => by
    simp only [lookT] at h
    by_cases hk : k = t
    · subst hk
      simp at h; subst h
      exact TI.of_ok hl.1
    · simp only [beq_ne hk, cond_false] at h
      exact Tab.ok_of r hl.2 t ti h

def rep (n : Nat) (l : List SV) : List SV :=
  match n with
  | 0 => []
  | n + 1 => l ++ rep n l

/-! ### pure operations, and loads -/
def nth {α : Type} : List α → Nat → Option α
  | [], _ => none
  | x :: _, 0 => some x
  | _ :: r, n + 1 => nth r n

theorem nth_eq {α : Type} : ∀ (l : List α) (n : Nat), nth l n = l[n]?
  | [], _ => by simp [nth]
  | _ :: _, 0 => by simp [nth]
  | _ :: r, n + 1 => by simp [nth, nth_eq r n]

def addI (k : IntKind) : SI → SI → SI
  | .lit x, .lit y => .lit (k.wrap (x + y))
  | a, b => .wrap k (.add a b)
def subI (k : IntKind) : SI → SI → SI
  | .lit x, .lit y => .lit (k.wrap (x - y))
  | a, b => .wrap k (.sub a b)
def mulI (k : IntKind) : SI → SI → SI
  | .lit x, .lit y => .lit (k.wrap (x * y))
  | a, b => .wrap k (.mul a b)
def eqI : SI → SI → SB
  | .lit x, .lit y => .lit (x == y)
  | a, b => .eq a b
def neI : SI → SI → SB
  | .lit x, .lit y => .lit (x != y)
  | a, b => .ne a b
def ltI : SI → SI → SB
  | .lit x, .lit y => .lit (decide (x < y))
  | a, b => .lt a b
def leI : SI → SI → SB
  | .lit x, .lit y => .lit (decide (x ≤ y))
  | a, b => .le a b
def gtI : SI → SI → SB
  | .lit x, .lit y => .lit (decide (y < x))
  | a, b => .gt a b
def geI : SI → SI → SB
  | .lit x, .lit y => .lit (decide (y ≤ x))
  | a, b => .ge a b

theorem addI_den (k : IntKind) (a b : SI) : (addI k a b).den = k.wrap (a.den + b.den) := by unfold addI; split <;> rfl
theorem subI_den (k : IntKind) (a b : SI) : (subI k a b).den = k.wrap (a.den - b.den) := by unfold subI; split <;> rfl
theorem mulI_den (k : IntKind) (a b : SI) : (mulI k a b).den = k.wrap (a.den * b.den) := by unfold mulI; split <;> rfl
theorem eqI_den (a b : SI) : (eqI a b).den = (a.den == b.den) := by unfold eqI; split <;> rfl
theorem neI_den (a b : SI) : (neI a b).den = (a.den != b.den) := by unfold neI; split <;> rfl
theorem ltI_den (a b : SI) : (ltI a b).den = decide (a.den < b.den) := by unfold ltI; split <;> rfl
theorem leI_den (a b : SI) : (leI a b).den = decide (a.den ≤ b.den) := by unfold leI; split <;> rfl
theorem gtI_den (a b : SI) : (gtI a b).den = decide (b.den < a.den) := by unfold gtI; split <;> rfl
theorem geI_den (a b : SI) : (geI a b).den = decide (b.den ≤ a.den) := by unfold geI; split <;> rfl

def notB : SB → SB
  | .lit b => .lit (!b)
  | .not b => b
  | b => .not b
theorem notB_den (b : SB) : (notB b).den = !b.den := by
  unfold notB; split <;> simp [SB.den]
def orB : SB → SB → SB
  | .lit true, _ => .lit true
  | .lit false, b => b
  | a, .lit false => a
  | _, .lit true => .lit true
  | a, b => .or a b
theorem orB_den (a b : SB) : (orB a b).den = (a.den || b.den) := by
  unfold orB; split <;> simp [SB.den]
def andB : SB → SB → SB
  | .lit false, _ => .lit false
  | .lit true, b => b
  | a, .lit true => a
  | _, .lit false => .lit false
  | a, b => .and a b
theorem andB_den (a b : SB) : (andB a b).den = (a.den && b.den) := by
  unfold andB; split <;> simp [SB.den]

def bitsS (op : BinOp) (k : IntKind) : SI → SI → SI
  | .lit x, .lit y => .lit (bitsI op k x y)
  | a, b => .bits op k a b
def quoI (k : IntKind) : SI → Int → SI
  | .lit x, y => .lit (k.wrap (x.tdiv y))
  | a, y => .wrap k (.quo a (.lit y))
def remI : SI → Int → SI
  | .lit x, y => .lit (x.tmod y)
  | a, y => .rem a (.lit y)
def shlI (k : IntKind) : SI → Nat → SI
  | .lit x, n => .lit (k.wrap (x * 2 ^ n))
  | a, n => .wrap k (.shl a n)
def shrI : SI → Nat → SI
  | .lit x, n => .lit (x.fdiv (2 ^ n))
  | a, n => .shr a n
def mxI : SI → SI → SI
  | .lit x, .lit y => .lit (if x < y then y else x)
  | a, b => .mx a b
def mnI : SI → SI → SI
  | .lit x, .lit y => .lit (if y < x then y else x)
  | a, b => .mn a b
theorem bitsS_den (op : BinOp) (k : IntKind) (a b : SI) : (bitsS op k a b).den = bitsI op k a.den b.den := by unfold bitsS; split <;> rfl
theorem quoI_den (k : IntKind) (a : SI) (y : Int) : (quoI k a y).den = k.wrap (a.den.tdiv y) := by unfold quoI; split <;> rfl
theorem remI_den (a : SI) (y : Int) : (remI a y).den = a.den.tmod y := by unfold remI; split <;> rfl
theorem shlI_den (k : IntKind) (a : SI) (n : Nat) : (shlI k a n).den = k.wrap (a.den * 2 ^ n) := by unfold shlI; split <;> rfl
theorem shrI_den (a : SI) (n : Nat) : (shrI a n).den = a.den.fdiv (2 ^ n) := by unfold shrI; split <;> rfl
theorem mxI_den (a b : SI) : (mxI a b).den = if a.den < b.den then b.den else a.den := by unfold mxI; split <;> rfl
theorem mnI_den (a b : SI) : (mnI a b).den = if b.den < a.den then b.den else a.den := by unfold mnI; split <;> rfl

def intOp (op : BinOp) (k : IntKind) (a b : SI) : Option SV :=
  match op with
  | .add => some (.int k (addI k a b))
  | .sub => some (.int k (subI k a b))
  | .mul => some (.int k (mulI k a b))
  | .eql => some (.bool (eqI a b))
  | .neq => some (.bool (neI a b))
  | .lss => some (.bool (ltI a b))
  | .leq => some (.bool (leI a b))
  | .gtr => some (.bool (gtI a b))
  | .geq => some (.bool (geI a b))
  | .and => some (.int k (bitsS .and k a b))
  | .or => some (.int k (bitsS .or k a b))
  | .xor => some (.int k (bitsS .xor k a b))
  | .andNot => some (.int k (bitsS .andNot k a b))
  | .quo => match b with
    | .lit z => bif decide (z = 0) then none else some (.int k (quoI k a z))
    | _ => none
  | .rem => match b with
    | .lit z => bif decide (z = 0) then none else some (.int k (remI a z))
    | _ => none
  | _ => none

def kn : IntKind → Nat
  | .i8 => 0 | .i16 => 1 | .i32 => 2 | .i64 => 3 | .u8 => 4 | .u16 => 5 | .u32 => 6 | .u64 => 7
def kq (a b : IntKind) : Bool := Nat.beq (kn a) (kn b)
theorem kq_eq {a b : IntKind} (h : kq a b = true) : a = b := by
  have := Nat.eq_of_beq_eq_true h
  cases a <;> cases b <;> first | rfl | (simp [kn] at this)

/-- is it a pointer that is not nil (true), or nil (false)? -/
def ptr? : SV → Option Bool
  | .own _ _ => some true
  | .ext _ _ _ => some true
  | .raw (.pointer (some _)) => some true
  | .raw (.pointer none) => some false
  | _ => none

def beqB : SB → SB → SB
  | .lit x, .lit y => .lit (x == y)
  | a, b => .beq a b
theorem beqB_den (a b : SB) : (beqB a b).den = (a.den == b.den) := by unfold beqB; split <;> rfl

/-- structs, compared cell by cell -/
def eqCells : List Bool → List SV → List SV → Option SB
  | [], [], [] => some (.lit true)
  | true :: sh, .int k a :: xs, .int k' b :: ys => bif kq k k' then
      match eqCells sh xs ys with
      | some c => some (andB (eqI a b) c)
      | none => none
    else none
  | false :: sh, .bool a :: xs, .bool b :: ys => match eqCells sh xs ys with
    | some c => some (andB (beqB a b) c)
    | none => none
  | _, _, _ => none

theorem eqCells_sound {N : Nums} : ∀ {sh : List Bool} {xs ys : List SV} {c : SB} {us vs : List Value}, eqCells sh xs ys = some c → SV.denL N xs = some us → SV.denL N ys = some vs → Fit sh us vs ∧ ceqL us vs = c.den := by
  intro sh xs ys
  fun_induction eqCells sh xs ys with
  | case1 =>
    intro c us vs h hx hy
    simp only [Option.some.injEq] at h; subst h
    simp only [SV.denL, Option.some.injEq] at hx hy
    subst hx; subst hy
    exact ⟨trivial, rfl⟩
  | case2 sh k a xs k' b ys hk c0 hc ih =>
    intro c us vs h hx hy
    have := kq_eq hk
    subst this
    simp only [Option.some.injEq] at h; subst h
    simp only [SV.denL, SV.den] at hx hy
    cases h1 : SV.denL N xs with
    | none => simp [h1] at hx
    | some us' =>
      cases h2 : SV.denL N ys with
      | none => simp [h2] at hy
      | some vs' =>
        simp only [h1, h2, Option.some.injEq] at hx hy
        subst hx; subst hy
        obtain ⟨q1, q2⟩ := ih hc h1 h2
        exact ⟨⟨⟨k, _, _, rfl, rfl⟩, q1⟩, by simp [ceqL, ceq, q2, andB_den, eqI_den]⟩
  | case3 => intro c us vs h; simp_all
  | case4 => intro c us vs h; simp_all
  | case5 sh a xs b ys c0 hc ih =>
    intro c us vs h hx hy
    simp only [Option.some.injEq] at h; subst h
    simp only [SV.denL, SV.den] at hx hy
    cases h1 : SV.denL N xs with
    | none => simp [h1] at hx
    | some us' =>
      cases h2 : SV.denL N ys with
      | none => simp [h2] at hy
      | some vs' =>
        simp only [h1, h2, Option.some.injEq] at hx hy
        subst hx; subst hy
        obtain ⟨q1, q2⟩ := ih hc h1 h2
        exact ⟨⟨⟨_, _, rfl, rfl⟩, q1⟩, by simp [ceqL, ceq, q2, andB_den, beqB_den]⟩
  | case6 => intro c us vs h; simp_all
  | case7 => intro c us vs h; simp_all

def binV (T : Tab) (op : BinOp) (t : Nat) (x y : SV) : Option SV :=
  match x, y with
  | .int k a, .int k' b =>
    match op with
    | .shl => match b with
      | .lit z => bif decide (z < 0) then none else some (.int k (shlI k a (min z.toNat k.bits)))
      | _ => none
    | .shr => match b with
      | .lit z => bif decide (z < 0) then none else some (.int k (shrI a (min z.toNat k.bits)))
      | _ => none
    | _ => bif kq k k' then intOp op k a b else none
  | .bool a, .bool b =>
    match lookT T t with
    | some ti => match ti.kind with
      | .bool => match op with
        | .eql => some (.bool (beqB a b))
        | .neq => some (.bool (notB (beqB a b)))
        | _ => none
      | _ => none
    | none => none
  | .agg xs, .agg ys =>
    match lookT T t with
    | some ti => match ti.eqs with
      | some sh => match eqCells sh xs ys with
        | some c => match op with
          | .eql => some (.bool c)
          | .neq => some (.bool (notB c))
          | _ => none
        | none => none
      | none => none
    | none => none
  | x, y =>
    match lookT T t with
    | some ti => match ti.kind with
      | .pointer =>
        match ptr? x, ptr? y with
        | some a, some b => bif a && b then none else
          match op with
          | .eql => some (.bool (.lit (!a && !b)))
          | .neq => some (.bool (.lit (!(!a && !b))))
          | _ => none
        | _, _ => none
      | _ => none
    | none => none

def convV (T : Tab) (src dst : Nat) (x : SV) : Option SV :=
  match lookT T src, lookT T dst, x with
  | some _, some ti, .int _ a => match ti.kind with
    | .int k => match a with
      | .lit z => some (.int k (.lit (k.wrap z)))
      | a => some (.int k (.wrap k a))
    | _ => none
  | _, _, _ => none

def unV (op : UnOp) (x : SV) : Option SV :=
  match op, x with
  | .not, .bool a => some (.bool (notB a))
  | .neg, .int k a => some (.int k (subI k (.lit 0) a))
  | .xor, .int k a => some (.int k (bitsS .xor k (.lit (if k.signed then -1 else k.max)) a))
  | _, _ => none

/-- a part of a row -/
def partV (agg : Bool) (cs : List SV) (off n : Nat) : Option SV :=
  bif Nat.ble (off + n) cs.length then (bif agg then some (.agg ((cs.drop off).take n)) else nth cs off) else none

def fieldV (T : Tab) (t : Nat) (x : SV) (f : Nat) : Option SV :=
  match lookT T t, x with
  | some ti, .agg cs => match ti.kind with
    | .struct fs => match nth fs f with
      | some (o, n, a) => partV a cs o n
      | none => none
    | _ => none
  | _, _ => none

def fieldAddrV (T : Tab) (t : Nat) (x : SV) (f : Nat) : Option SV :=
  match lookT T t with
  | some ti => match ti.kind with
    | .struct fs => match nth fs f with
      | some (o, n, _) => bif Nat.beq n 0 then none else
        match x with
        | .own r c => some (.own r (c + o))
        | .ext k x c => some (.ext k x (c + o))
        | _ => none
      | none => none
    | _ => none
  | none => none

def indexAddrV (T : Tab) (t : Nat) (x i : SV) : Option SV :=
  match i with
  | .int _ (.lit z) =>
    match lookT T t with
    | some ti => match ti.kind with
      | .array n e => match lookT T e with
        | some te => bif decide (0 ≤ z) && decide (z < n) then
            match x with
            | .own r c => some (.own r (c + z.toNat * te.size))
            | .ext k x c => some (.ext k x (c + z.toNat * te.size))
            | _ => none
          else none
        | none => none
      | .slice e => match lookT T e with
        | some te => match x with
          | .osl r c n _ _ => bif decide (0 ≤ z) && decide (z < n) then some (.own r (c + z.toNat * te.size)) else none
          | _ => none
        | none => none
      | _ => none
    | none => none
  | _ => none

def indexV (T : Tab) (t : Nat) (x i : SV) : Option SV :=
  match i, x with
  | .int _ (.lit z), .agg cs =>
    match lookT T t with
    | some ti => match ti.kind with
      | .array n e => match lookT T e with
        | some te => bif decide (0 ≤ z) && decide (z < n) then partV te.agg cs (z.toNat * te.size) te.size else none
        | none => none
      | _ => none
    | none => none
  | _, _ => none

def extractV (x : SV) (i : Nat) : Option SV :=
  match x with
  | .tup cs => nth cs i
  | _ => none

def lenV (T : Tab) (t : Nat) (x : SV) : Option SV :=
  match lookT T t with
  | some ti => match ti.kind with
    | .slice _ => match x with
      | .osl _ _ n _ _ => some (.int .i64 (.lit n))
      | .sl _ _ n _ => some (.int .i64 (.nat n))
      | .slv _ n _ => some (.int .i64 (.nat n))
      | .raw (.slice none n _) => some (.int .i64 (.lit n))
      | .raw (.slice (some _) n _) => some (.int .i64 (.nat n))
      | _ => none
    | .string => match x with
      | .raw (.string s) => some (.int .i64 (.nat s.size))
      | _ => none
    | .array n _ => some (.int .i64 (.lit n))
    | _ => none
  | none => none

def nilCheckV : SV → Option SV
  | .own r c => some (.own r c)
  | .ext k x c => some (.ext k x c)
  | .raw (.pointer (some a)) => some (.raw (.pointer (some a)))
  | _ => none

/-- the parts of a struct laid into its zero value -/
def fillV (place : Nat → Option (Nat × Nat)) (cells : List SV) : List (Nat × SV) → Option (List SV)
  | [] => some cells
  | (i, v) :: rest =>
    match place i with
    | none => none
    | some (off, size) => bif Nat.beq v.cells.length size && Nat.ble (off + size) cells.length then
        match v with
        | .tup _ => none
        | .big _ => none
        | v => fillV place (setRow cells off v.cells) rest
      else none

def placeV (fs : List (Nat × Nat × Bool)) (i : Nat) : Option (Nat × Nat) :=
  match nth fs i with
  | some (o, n, _) => some (o, n)
  | none => none

def buildV (T : Tab) (t : Nat) (parts : List (Nat × SV)) : Option SV :=
  match lookT T t with
  | some ti => match ti.kind with
    | .struct fs => match fillV (placeV fs) ti.zero parts with
      | some cs => some (.agg cs)
      | none => none
    | .array _ e => match lookT T e with
      | some te => match fillV (fun i => some (i * te.size, te.size)) ti.zero parts with
        | some cs => some (.agg cs)
        | none => none
      | none => none
    | _ => none
  | none => none

def loadV (T : Tab) (rg : List Rg) (t : Nat) (x : SV) : Option SV :=
  match x with
  | .own r c => match lookT T t, nth rg r with
    | some ti, some g => bif ti.agg then (bif Nat.ble (c + ti.size) g.cells.length then some (.agg ((g.cells.drop c).take ti.size)) else none) else nth g.cells c
    | _, _ => none
  | _ => none

def evs (ρ : Operand → Option SV) : List (Nat × Operand) → Option (List (Nat × SV))
  | [] => some []
  | (i, x) :: r => match ρ x, evs ρ r with
    | some v, some l => some ((i, v) :: l)
    | _, _ => none

/-- a list of operands -/
def evL0 (ρ : Operand → Option SV) : List Operand → Option (List SV)
  | [] => some []
  | x :: r => match ρ x, evL0 ρ r with
    | some v, some l => some (v :: l)
    | _, _ => none

/-- a number that is written out, if it is there at all -/
def evO (ρ : Operand → Option SV) : Option Operand → Option (Option Nat)
  | none => some none
  | some x => match ρ x with
    | some (.int _ (.lit z)) => bif decide (0 ≤ z) then some (some z.toNat) else none
    | _ => none

/-- 'x[lo:hi:mx]' -/
def sliceV (T : Tab) (rg : List Rg) (t : Nat) (x : SV) (lo hi mx : Option Nat) : Option SV :=
  match lookT T t with
  | some ti => match ti.kind with
    | .slice e => match lookT T e with
      | some te => match x with
        | .osl r c n z (some k) => bif Nat.beq z te.size && Nat.ble (lo.getD 0) (hi.getD n) && Nat.ble (hi.getD n) (mx.getD k) && Nat.ble (mx.getD k) k && (hi.isSome || !mx.isSome) then
            bif Nat.beq (mx.getD k) (lo.getD 0) then some (.osl r c (hi.getD n - lo.getD 0) z (some 0)) else some (.osl r (c + lo.getD 0 * z) (hi.getD n - lo.getD 0) z (some (mx.getD k - lo.getD 0)))
          else none
        | .osl r c n z none => match nth rg r, mx with
          | some g, none => bif g.own && Nat.blt 0 z && Nat.beq z te.size && Nat.ble (lo.getD 0) (hi.getD n) && Nat.ble (c + hi.getD n * z) g.cells.length && (Nat.beq (lo.getD 0) 0 || Nat.ble (c + (lo.getD 0 + 1) * z) g.cells.length) then
              some (.osl r (c + lo.getD 0 * z) (hi.getD n - lo.getD 0) z none)
            else none
          | some g, some m => bif g.own && Nat.blt 0 z && Nat.beq z te.size && hi.isSome && Nat.ble (lo.getD 0) (hi.getD n) && Nat.ble (hi.getD n) m && Nat.ble (c + m * z) g.cells.length then
              bif Nat.beq m (lo.getD 0) then some (.osl r c (hi.getD n - lo.getD 0) z (some 0)) else some (.osl r (c + lo.getD 0 * z) (hi.getD n - lo.getD 0) z (some (m - lo.getD 0)))
            else none
          | none, _ => none
        | .raw (.slice none 0 0) => bif Nat.beq (lo.getD 0) 0 && Nat.beq (hi.getD 0) 0 && Nat.beq (mx.getD 0) 0 && (hi.isSome || !mx.isSome) then some (.raw (.slice none 0 0)) else none
        | _ => none
      | none => none
    | .array n e => match lookT T e with
      | some te => match x with
        | .own r c => bif Nat.ble (lo.getD 0) (hi.getD n) && Nat.ble (hi.getD n) (mx.getD n) && Nat.ble (mx.getD n) n && (hi.isSome || !mx.isSome) then
            bif Nat.beq (mx.getD n) (lo.getD 0) then some (.osl r c (hi.getD n - lo.getD 0) te.size (some 0)) else some (.osl r (c + lo.getD 0 * te.size) (hi.getD n - lo.getD 0) te.size (some (mx.getD n - lo.getD 0)))
          else none
        | _ => none
      | none => none
    | _ => none
  | none => none

def pickB (c a b : SB) : SB :=
  match a, b with
  | .lit true, b => orB c b
  | a, .lit false => andB c a
  | a, b => orB (andB c a) (andB (notB c) b)
theorem pickB_den (c a b : SB) : (pickB c a b).den = bif c.den then a.den else b.den := by
  unfold pickB
  split
  · rw [orB_den]; cases c.den <;> simp [SB.den]
  · rw [andB_den]; cases c.den <;> simp [SB.den]
  · rw [orB_den, andB_den, andB_den, notB_den]; cases c.den <;> simp

def pickV (c a b : SV) : Option SV :=
  match c with
  | .bool (.lit true) => some a
  | .bool (.lit false) => some b
  | .bool c => match a, b with
    | .bool a, .bool b => some (.bool (pickB c a b))
    | _, _ => none
  | _ => none

/-- an operation that only computes, or loads from a region -/
def stepP (T : Tab) (rg : List Rg) (ρ : Operand → Option SV) (op : Op) : Option SV :=
  match op with
  | .move x => ρ x
  | .assign x => ρ x
  | .load t a => match ρ a with
    | some x => loadV T rg t x
    | none => none
  | .nilCheck x => match ρ x with
    | some x => nilCheckV x
    | none => none
  | .binOp op t x y _ => match ρ x, ρ y with
    | some x, some y => binV T op t x y
    | _, _ => none
  | .unOp op _ x => match ρ x with
    | some x => unV op x
    | none => none
  | .convert s d x => match ρ x with
    | some x => convV T s d x
    | none => none
  | .fieldAddr t x f => match ρ x with
    | some x => fieldAddrV T t x f
    | none => none
  | .field t x f => match ρ x with
    | some x => fieldV T t x f
    | none => none
  | .indexAddr t x i => match ρ x, ρ i with
    | some x, some i => indexAddrV T t x i
    | _, _ => none
  | .index t x i => match ρ x, ρ i with
    | some x, some i => indexV T t x i
    | _, _ => none
  | .extract x i => match ρ x with
    | some x => extractV x i
    | none => none
  | .build t ps => match evs ρ ps.toList with
    | some l => buildV T t l
    | none => none
  | .makeFunc fn first cap => match fn, first.toList, evL0 ρ cap.toList with
    | .func f, [], some l => some (.fn f l)
    | _, _, _ => none
  | .slice t x lo hi mx => match ρ x, evO ρ lo, evO ρ hi, evO ρ mx with
    | some x, some lo, some hi, some mx => sliceV T rg t x lo hi mx
    | _, _, _, _ => none
  | .call c => match c.callee with
    | .builtin .len => match c.args.toList, c.argTypes.toList with
      | [x], [t] => match ρ x with
        | some x => lenV T t x
        | none => none
      | _, _ => none
    | .builtin .max => match c.args.toList with
      | [x, y] => match ρ x, ρ y with
        | some (.int k a), some (.int _ b) => some (.int k (mxI a b))
        | _, _ => none
      | _ => none
    | .builtin .min => match c.args.toList with
      | [x, y] => match ρ x, ρ y with
        | some (.int k a), some (.int _ b) => some (.int k (mnI a b))
        | _, _ => none
      | _ => none
    | _ => none
  | _ => none

end Go.Eng
