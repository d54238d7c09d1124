/- The symbolic executor, part 7: the judgement; code, one step behind the other. -/
import Derived.Test.YtkjhpaeminegoaaEng6
import Derived.Test.YtkjhpaeminegoaaEngO

namespace Go.Eng

/-! ### regions that draw their order: one order each, that stands for all -/
/-- the operations in an order; some blk: it may be taken first, and none but those of blk may come up ahead of it; none: nothing else may come up -/
abbrev Sch := List (Nat × Option (List Nat))
abbrev SchT := List (Nat × Sch)

def lookS : SchT → Nat → Option Sch
  | [], _ => none
  | (k, v) :: r, t => bif Nat.beq k t then some v else lookS r t

def only (l : List Nat) (i : Nat) : Bool :=
  match l with
  | [j] => Nat.beq j i
  | _ => false

def schOk (ops : Array Oper) : Sch → Array Bool → Bool
  | [], listed => (Region.ready .any ops listed).isEmpty
  | (i, some blk) :: r, listed => (Region.ready .any ops listed).contains i && Region.free .any ops listed i && closedB ops i blk && withinB listed ops.size blk && schOk ops r (listed.setIfInBounds i true)
  | (i, none) :: r, listed => only (Region.ready .any ops listed) i && schOk ops r (listed.setIfInBounds i true)

def anyOk (ops : Array Oper) (s : Sch) : Bool := Region.noSelect ops && Nat.beq s.length ops.size && schOk ops s (Array.replicate ops.size false)

def regsB (B : SchT) : Code → Bool
  | .region id ops d => match d with
    | true => match lookS B id with
      | some s => anyOk ops s
      | none => true
    | false => true
  | .seq x y => regsB B x && regsB B y
  | .cond _ x y => regsB B x && regsB B y
  | .block _ c => regsB B c
  | .loop c => regsB B c
  | .scope c => regsB B c
  | _ => true

inductive It where
  | code (c : Code)
  | blk (id : Nat)
  | ops (all : Array Oper) (rest : List Nat)
  | lp (q : Act → World → Prop)
  | res (l : List SV)
  | inl (c : Code)
  deriving Inhabited

/-- back at a loop's head -/
def wpIn (P : Program) (c : Code) (Q : Exit → Act → World → Prop) (a : Act) (w : World) : Prop :=
  ∀ (b : Frame) (k : List Item) (cs : List Frame), ∃ e a' w', Q e a' w' ∧ Arrives P (lone (b.at a (.inLoop c :: k)) cs w) b k cs e a' w'

theorem loop_round {P : Program} {c : Code} {Q : Exit → Act → World → Prop} {a : Act} {w : World} (h : c.wp P (Exit.then (wpIn P c Q) Q) a w) (b : Frame) (k : List Item) (cs : List Frame) :
    ∃ e a' w', Q e a' w' ∧ Arrives P (lone (b.at a (.code c :: .inLoop c :: k)) cs w) b k cs e a' w' := by
  obtain ⟨e, a₁, w₁, hq, harr⟩ := h b (.inLoop c :: k) cs
  cases e with
  | normal =>
    obtain ⟨e₂, a₂, w₂, hq₂, harr₂⟩ := hq b k cs
    exact ⟨e₂, a₂, w₂, hq₂, .of_steps harr harr₂⟩
  | exit id => exact ⟨_, a₁, w₁, hq, .pass (x := .inLoop c) rfl (fun _ _ => .inl (by simp)) harr⟩
  | goto l => exact ⟨_, a₁, w₁, hq, .pass (x := .inLoop c) rfl (fun _ _ => .inl (by simp)) harr⟩
  | ret => exact ⟨_, a₁, w₁, hq, .pass (x := .inLoop c) rfl (fun _ _ => .inl (by simp)) harr⟩
  | panic ch => exact ⟨_, a₁, w₁, hq, .pass (x := .inLoop c) rfl (fun _ _ => .inl (by simp)) harr⟩
  | outgrown => exact ⟨_, a₁, w₁, hq, .pass (x := .inLoop c) rfl (fun _ _ => .inl (by simp)) harr⟩

theorem wp_unroll {P : Program} {c : Code} {Q : Exit → Act → World → Prop} {a : Act} {w : World} (h : c.wp P (Exit.then (wpIn P c Q) Q) a w) : (Code.loop c).wp P Q a w := by
  intro b k cs
  obtain ⟨e, a', w', hq, harr⟩ := loop_round h b k cs
  exact ⟨e, a', w', hq, .of_steps (.one step_loop) harr⟩

theorem wpIn_again {P : Program} {c : Code} {Q : Exit → Act → World → Prop} {a : Act} {w : World} (h : c.wp P (Exit.then (wpIn P c Q) Q) a w) : wpIn P c Q a w := by
  intro b k cs
  obtain ⟨e, a', w', hq, harr⟩ := loop_round h b k cs
  exact ⟨e, a', w', hq, .of_steps (.one step_inLoop) harr⟩

def sem (P : Program) (B : SchT) : List It → (Exit → Act → World → Prop) → Exit → Act → World → Prop
  | [], Q => Q
  | .code c :: k, Q => Exit.then (fun a w => regsB B c = true → c.wp P (sem P B k Q) a w) (sem P B k Q)
  | .blk id :: k, Q => Exit.inBlock id (sem P B k Q)
  | .ops all rest :: k, Q => Exit.then (fun a w => wpOps P all (sem P B k Q) rest a w) (sem P B k Q)
  | .lp q :: k, Q => Exit.then q (sem P B k Q)
  | .res _ :: k, Q => Exit.then (fun a w => sem P B k Q .ret a w) (sem P B k Q)
  | .inl c :: k, Q => Exit.then (fun a w => regsB B c = true → wpIn P c (sem P B k Q) a w) (sem P B k Q)

/-- the environment with what is known of the first blocks' numbers -/
structure Ctx extends Env where
  N0 : Nums
  B : SchT

def X (E : Ctx) (t : List It) (s : St) : Prop :=
  ∀ (N : Nums) (a : Act) (w : World), E.N0.le N → FrOk E.n N s.fr a → Sat E.toEnv N s.rg w → sem E.P E.B t E.Q .normal a w

def unwind (id : Nat) : List It → Option (List It)
  | [] => none
  | .blk i :: k => bif Nat.beq i id then some k else unwind id k
  | .code _ :: k => unwind id k
  | .ops _ _ :: k => unwind id k
  | .lp _ :: k => unwind id k
  | .res _ :: k => unwind id k
  | .inl _ :: k => unwind id k

theorem unwind_sound {P : Program} {B : SchT} {id : Nat} {Q : Exit → Act → World → Prop} {a : Act} {w : World} : ∀ (k : List It) {k' : List It}, unwind id k = some k' → sem P B k' Q .normal a w → sem P B k Q (.exit id) a w
  | [], k', h, _ => by simp [unwind] at h
  | .code c :: k, k', h, hs => by simp only [unwind] at h; exact unwind_sound k h hs
  | .ops all rest :: k, k', h, hs => by simp only [unwind] at h; exact unwind_sound k h hs
  | .lp q :: k, k', h, hs => by simp only [unwind] at h; exact unwind_sound k h hs
  | .res q :: k, k', h, hs => by simp only [unwind] at h; exact unwind_sound k h hs
  | .inl q :: k, k', h, hs => by simp only [unwind] at h; exact unwind_sound k h hs
  | .blk i :: k, k', h, hs => by
    simp only [unwind] at h
    by_cases hi : i = id
    · subst hi
      simp at h; subst h
      simpa [sem, Exit.inBlock] using hs
    · simp only [beq_ne hi, cond_false] at h
      have := unwind_sound k h hs
      simp only [sem, Exit.inBlock]
      rw [if_neg (fun e => hi e.symm)]
      exact this

/-- the slot that an operation writes -/
def dstOf (all : Array Oper) (i : Nat) : Option Nat :=
  match nth all.toList i with
  | some o => o.dst
  | none => none

/-- a choice between two, whose other side need not be known -/
def pickF (f : Fr) (ρ : Operand → Option SV) (op : Op) : Option SV :=
  match op with
  | .pick (.tmp m) a b => match ρ (.tmp m), evG f m true a, evG f m false b with
    | some c, some va, some vb => pickV c va vb
    | some (.bool (.lit true)), some va, _ => some va
    | some (.bool (.lit false)), _, some vb => some vb
    | _, _, _ => none
  | _ => none

def putO (n : Nat) (f : Fr) (d : Option Nat) (e : FV) : Option Fr :=
  match d with
  | none => some f
  | some d => bif Nat.blt d n then some (upd f d e) else none

/-- is it undef, for certain? -/
def isU : SV → Bool
  | .tup [] => true
  | _ => false

def valQ (T : Tab) (rg : List Rg) (f : Fr) (ρ : Operand → Option SV) (op : Op) : Option SV :=
  match pickF f ρ op with
  | some v => some v
  | none => stepP T rg ρ op

def plainQ (T : Tab) (n : Nat) (rg : List Rg) (f : Fr) (o : Oper) : Option Fr :=
  match valQ T rg f (ev f) o.op with
  | some v => putO n f o.dst (.val v)
  | none => none

def maybeQ (T : Tab) (n : Nat) (rg : List Rg) (f : Fr) (o : Oper) (k : Nat) (want : Bool) : Option Fr :=
  match valQ T rg f (evG f k want) o.op with
  | some v => match o.dst with
    | some d => bif Nat.beq d k then none else putO n f (some d) (.opt k want v)
    | none => none
  | none => none

/-- an operation that only computes or loads: the frame behind it -/
def opQ (T : Tab) (n : Nat) (all : Array Oper) (rg : List Rg) (i : Nat) (f : Fr) : Option Fr :=
  match nth all.toList i with
  | none => none
  | some o =>
    match o.guard with
    | none => plainQ T n rg f o
    | some (gi, want) => match dstOf all gi with
      | none => none
      | some k =>
        match look f k with
        | .val (.bool (.lit b)) => bif b == want then plainQ T n rg f o else putO n f o.dst (.val (.tup []))
        | .val (.bool _) => maybeQ T n rg f o k want
        | .val v => bif isU v then putO n f o.dst (.val (.tup [])) else none
        | .opt _ _ (.bool _) => maybeQ T n rg f o k want
        | _ => none

/-- is it carried out, for certain? -/
def sure (all : Array Oper) (f : Fr) (o : Oper) : Bool :=
  match o.guard with
  | none => true
  | some (gi, want) => match dstOf all gi with
    | none => false
    | some k => match look f k with
      | .val (.bool (.lit b)) => b == want
      | _ => false

/-- an operation that makes a block or writes one -/
def opE (T : Tab) (n : Nat) (all : Array Oper) (i : Nat) (s : St) : Option St :=
  match nth all.toList i with
  | none => none
  | some o => bif sure all s.fr o then
      match stepE T s.rg (ev s.fr) o.op with
      | some (v, rg) => match putO n s.fr o.dst (.val v) with
        | some f => some ⟨f, rg⟩
        | none => none
      | none => none
    else none

def opStep (T : Tab) (n : Nat) (all : Array Oper) (i : Nat) (s : St) : Option St :=
  match opQ T n all s.rg i s.fr with
  | some f => some ⟨f, s.rg⟩
  | none => opE T n all i s

/-! ### regions that draw their order -/
def memN : List Nat → Nat → Bool
  | [], _ => false
  | k :: r, n => Nat.beq k n || memN r n

/-- the region that an operation writes -/
def stR (f : Fr) (all : Array Oper) (i : Nat) : Option Nat :=
  match nth all.toList i with
  | some o => wrOp (ev f) o.op
  | none => none

def maskRg (ks : List Nat) : List Rg → Nat → List Rg
  | [], _ => []
  | g :: r, i => (bif memN ks i then ⟨false, [], none⟩ else g) :: maskRg ks r (i + 1)

/-- the results, as the frame and the regions hold them -/
def resL (T : Tab) (s : St) : List ResultVar → Option (List SV)
  | [] => some []
  | .tmp t :: r => match ev s.fr (.tmp t), resL T s r with
    | some v, some l => some (v :: l)
    | _, _ => none
  | .cell a t :: r => match ev s.fr (.tmp a) with
    | some x => match loadV T s.rg t x, resL T s r with
      | some v, some l => some (v :: l)
      | _, _ => none
    | none => none

def adv (T : Tab) (n : Nat) (rs : List ResultVar) (t : List It) (s : St) : Option (List It × St) :=
  match t with
  | [] => none
  | .lp _ :: _ => none
  | .res _ :: _ => none
  | .inl _ :: _ => none
  | .blk _ :: k => some (k, s)
  | .ops _ [] :: k => some (k, s)
  | .ops all (i :: rest) :: k => match opStep T n all i s with
    | some s' => some (.ops all rest :: k, s')
    | none => none
  | .code c :: k =>
    match c with
    | .skip => some (k, s)
    | .label _ => some (k, s)
    | .seq x y => some (.code x :: .code y :: k, s)
    | .block id c => some (.code c :: .blk id :: k, s)
    | .region _ ops d => match d with
      | false => some (.ops ops (List.range ops.size) :: k, s)
      | true => none
    | .exit id => match unwind id k with
      | some k' => some (k', s)
      | none => none
    | .cond c x y => match ev s.fr c with
      | some (.bool (.lit b)) => some (.code (bif b then x else y) :: k, s)
      | _ => none
    | .ret => match resL T s rs with
      | some l => some (.res l :: k, s)
      | none => none
    | _ => none

abbrev XP (E : Ctx) (p : List It × St) : Prop := X E p.1 p.2

/-! ### soundness -/
section
variable {E : Ctx} {T : Tab}

theorem pickF_sound {n : Nat} {N : Nums} {f : Fr} {a : Act} {P : Program} {w : World} (h : FrOk n N f a) {ρ : Operand → Option SV} (hρ : ∀ x s, ρ x = some s → s.den N = some (a.eval x)) {o : Oper} {r : SV} (hp : pickF f ρ o.op = some r) :
    ∃ x, r.den N = some x ∧ (execOp a.eval o).run P w = .ok (.value x) w := by
  cases hop : o.op <;> simp only [hop, pickF] at hp <;> try (simp at hp; done)
  rename_i c x y
  cases c <;> simp only at hp <;> try (simp at hp; done)
  rename_i m
  have key : ∀ (c : SV) (cb : Bool), ρ (.tmp m) = some c → c.den N = some (.bool cb) → a.tmps[m]? = some (.bool cb) := by
    intro c cb hc hd
    have := hρ _ _ hc
    rw [hd] at this
    simp only [Act.eval, Option.some.injEq] at this
    cases hm : a.tmps[m]? with
    | none => simp [hm, undef] at this
    | some v => simp [hm] at this; rw [this]
  have fin : ∀ (cb : Bool) (r : SV), a.eval (.tmp m) = .bool cb → r.den N = some (bif cb then a.eval x else a.eval y) → ∃ v, r.den N = some v ∧ (execOp a.eval o).run P w = .ok (.value v) w := by
    intro cb r hc hr
    refine ⟨_, hr, ?_⟩
    simp only [execOp, hop, hc]
    cases cb <;> simp [asBool]
  split at hp
  · rename_i c va vb hc ha hb
    have hd := hρ _ _ hc
    -- the test is a Bool
    have hbool : ∃ cb, c.den N = some (.bool cb) := by
      unfold pickV at hp
      split at hp
      · exact ⟨_, rfl⟩
      · exact ⟨_, rfl⟩
      · exact ⟨_, rfl⟩
      · cases hp
    obtain ⟨cb, hcb⟩ := hbool
    have hm := key c cb hc hcb
    rw [hcb] at hd
    simp only [Option.some.injEq] at hd
    refine fin cb r hd.symm (pickV_sound hcb (fun e => ?_) (fun e => ?_) hp)
    · subst e; exact evG_sound h hm ha
    · subst e; exact evG_sound h hm hb
  · rename_i va hc ha _
    simp only [Option.some.injEq] at hp; subst hp
    have hm := key _ true hc rfl
    have hd := hρ _ _ hc
    simp only [SV.den, SB.den, Option.some.injEq] at hd
    exact fin true _ hd.symm (evG_sound h hm ha)
  · rename_i vb hc hb _
    simp only [Option.some.injEq] at hp; subst hp
    have hm := key _ false hc rfl
    have hd := hρ _ _ hc
    simp only [SV.den, SB.den, Option.some.injEq] at hd
    exact fin false _ hd.symm (evG_sound h hm ‹_›)
  · cases hp

theorem putO_sound {n : Nat} {N : Nums} {f f' : Fr} {a : Act} {d : Option Nat} {v : SV} {x : Value} (h : FrOk n N f a) (hv : v.den N = some x) (hp : putO n f d (.val v) = some f') : FrOk n N f' (a.put d x) := by
  cases d with
  | none => simp only [putO, Option.some.injEq] at hp; subst hp; exact h
  | some d =>
    simp only [putO] at hp
    cases hb : Nat.blt d n with
    | false => rw [hb] at hp; simp at hp
    | true =>
      rw [hb] at hp
      simp only [cond_true, Option.some.injEq] at hp; subst hp
      exact h.put_val (Nat.le_of_ble_eq_true hb) hv

theorem valQ_sound {P : Program} (hT : TabOk P T) {n : Nat} {N : Nums} {rg : List Rg} {f : Fr} {a : Act} {w : World} (hf : FrOk n N f a) (h : Vis N rg w) {ρ : Operand → Option SV} (hρ : ∀ x s, ρ x = some s → s.den N = some (a.eval x)) {o : Oper} {v : SV}
    (hv : valQ T rg f ρ o.op = some v) : ∃ x, v.den N = some x ∧ (execOp a.eval o).run P w = .ok (.value x) w := by
  unfold valQ at hv
  split at hv
  · rename_i v' hpick
    simp only [Option.some.injEq] at hv; subst hv
    exact pickF_sound hf hρ hpick
  · exact stepP_sound hT h hρ hv

theorem yielded_at {all : Array Oper} {gi k : Nat} (hd : dstOf all gi = some k) (t : Array Value) : yielded all t gi = match t[k]? with | some (.bool b) => some b | _ => none := by
  unfold dstOf at hd
  rw [nth_eq] at hd
  unfold yielded
  cases hgi : all[gi]? with
  | none => rw [Array.getElem?_toList, hgi] at hd; simp at hd
  | some og =>
    rw [Array.getElem?_toList, hgi] at hd
    simp only at hd
    simp only [Option.bind_some, hd]
    cases t[k]? with
    | none => rfl
    | some v => cases v <;> rfl

theorem opQ_sound {P : Program} (hT : TabOk P T) {n : Nat} {N : Nums} {rg : List Rg} {f f' : Fr} {a : Act} {all : Array Oper} {i : Nat} {o : Oper} {w0 : World} (ho : all[i]? = some o) (hq : opQ T n all rg i f = some f') (hf : FrOk n N f a) (h0 : Vis N rg w0) :
    ∃ v, ((Region.wanted o (yielded all a.tmps) = true ∧ ∀ w, Vis N rg w → (execOp a.eval o).run P w = .ok (.value v) w) ∨ (Region.wanted o (yielded all a.tmps) = false ∧ v = undef)) ∧ FrOk n N f' (a.put o.dst v) := by
  unfold opQ at hq
  have ho' : nth all.toList i = some o := by rw [nth_eq]; simpa using ho
  simp only [ho'] at hq
  have hρ : ∀ x v, ev f x = some v → v.den N = some (a.eval x) := fun x v hx => ev_sound hf hx
  have uniq : ∀ {v : SV} {ρ : Operand → Option SV}, (∀ x v, ρ x = some v → v.den N = some (a.eval x)) → valQ T rg f ρ o.op = some v → ∃ x, v.den N = some x ∧ ∀ w, Vis N rg w → (execOp a.eval o).run P w = .ok (.value x) w := by
    intro v ρ hρ hv
    obtain ⟨x, h1, _⟩ := valQ_sound hT hf h0 hρ hv
    refine ⟨x, h1, fun w hw => ?_⟩
    obtain ⟨y, h3, h4⟩ := valQ_sound hT hf hw hρ hv
    rw [h1] at h3; cases h3; exact h4
  have plain : plainQ T n rg f o = some f' → Region.wanted o (yielded all a.tmps) = true → ∃ v, ((Region.wanted o (yielded all a.tmps) = true ∧ ∀ w, Vis N rg w → (execOp a.eval o).run P w = .ok (.value v) w) ∨ (Region.wanted o (yielded all a.tmps) = false ∧ v = undef)) ∧ FrOk n N f' (a.put o.dst v) := by
    intro hp hw
    unfold plainQ at hp
    split at hp
    · rename_i v hv
      obtain ⟨x, h1, h2⟩ := uniq hρ hv
      exact ⟨x, .inl ⟨hw, h2⟩, putO_sound hf h1 hp⟩
    · cases hp
  have skip : putO n f o.dst (.val (.tup [])) = some f' → Region.wanted o (yielded all a.tmps) = false → ∃ v, ((Region.wanted o (yielded all a.tmps) = true ∧ ∀ w, Vis N rg w → (execOp a.eval o).run P w = .ok (.value v) w) ∨ (Region.wanted o (yielded all a.tmps) = false ∧ v = undef)) ∧ FrOk n N f' (a.put o.dst v) :=
    fun hp hw => ⟨undef, .inr ⟨hw, rfl⟩, putO_sound hf (x := undef) rfl hp⟩
  cases hg : o.guard with
  | none =>
    simp only [hg] at hq
    exact plain hq (by simp [Region.wanted, hg])
  | some gw =>
    obtain ⟨gi, want⟩ := gw
    simp only [hg] at hq
    cases hd : dstOf all gi with
    | none => simp [hd] at hq
    | some k =>
      simp only [hd] at hq
      have hyk := yielded_at hd a.tmps
      have hwant : Region.wanted o (yielded all a.tmps) = (yielded all a.tmps gi == some want) := by simp [Region.wanted, hg]
      have maybe : maybeQ T n rg f o k want = some f' → ∃ v, ((Region.wanted o (yielded all a.tmps) = true ∧ ∀ w, Vis N rg w → (execOp a.eval o).run P w = .ok (.value v) w) ∨ (Region.wanted o (yielded all a.tmps) = false ∧ v = undef)) ∧ FrOk n N f' (a.put o.dst v) := by
        intro hp
        unfold maybeQ at hp
        split at hp
        · rename_i v hv
          split at hp
          · rename_i d hdst
            cases hdk : Nat.beq d k with
            | true => rw [hdk] at hp; simp at hp
            | false =>
              rw [hdk] at hp
              simp only [cond_false, putO] at hp
              have hdk' : d ≠ k := fun e => by subst e; simp at hdk
              cases hb : Nat.blt d n with
              | false => rw [hb] at hp; simp at hp
              | true =>
                rw [hb] at hp
                simp only [cond_true, Option.some.injEq] at hp; subst hp
                have hdn : d < n := Nat.le_of_ble_eq_true hb
                by_cases hk' : a.tmps[k]? = some (.bool want)
                · obtain ⟨x, h1, h2⟩ := uniq (fun x v hx => evG_sound hf hk' hx) hv
                  refine ⟨x, .inl ⟨by rw [hwant, hyk, hk']; simp, h2⟩, ?_⟩
                  rw [hdst]
                  have e1 : (a.put (some d) x).tmps[k]? = a.tmps[k]? := by simp only [Act.put]; rw [Array.getElem?_setIfInBounds_ne hdk']
                  exact hf.put hdn ⟨fun _ => ⟨x, h1, by simp [Act.put, hf.size, hdn]⟩, fun hn => absurd (by rw [e1]; exact hk') hn⟩
                · refine ⟨undef, .inr ⟨?_, rfl⟩, ?_⟩
                  · rw [hwant, hyk]
                    cases ht : a.tmps[k]? with
                    | none => rfl
                    | some u =>
                      cases u <;> simp
                      rename_i b
                      intro e; subst e; exact hk' ht
                  · rw [hdst]
                    have e1 : (a.put (some d) undef).tmps[k]? = a.tmps[k]? := by simp only [Act.put]; rw [Array.getElem?_setIfInBounds_ne hdk']
                    exact hf.put hdn ⟨fun e => absurd (by rw [← e1]; exact e) hk', fun _ => by simp [Act.put, hf.size, hdn]⟩
          · cases hp
        · cases hp
      have hok := hf.ok k
      split at hq
      · rename_i b hl
        rw [hl] at hok
        obtain ⟨x, hx, hm⟩ := hok
        simp only [SV.den, SB.den, Option.some.injEq] at hx; subst hx
        cases hbw : (b == want) with
        | true =>
          rw [hbw] at hq
          exact plain hq (by rw [hwant, hyk, hm]; simpa using hbw)
        | false =>
          rw [hbw] at hq
          exact skip hq (by rw [hwant, hyk, hm]; simpa using hbw)
      · exact maybe hq
      · rename_i v _ _ hl
        rw [hl] at hok
        obtain ⟨x, hx, hm⟩ := hok
        cases hu : isU v with
        | false => rw [hu] at hq; simp at hq
        | true =>
          rw [hu] at hq
          have : v = .tup [] := by unfold isU at hu; split at hu <;> first | rfl | simp at hu
          subst this
          simp only [SV.den, SV.denL, Option.some.injEq] at hx; subst hx
          exact skip hq (by rw [hwant, hyk, hm]; rfl)
      · exact maybe hq
      · cases hq

theorem sure_sound {n : Nat} {N : Nums} {f : Fr} {a : Act} {all : Array Oper} {o : Oper} (hf : FrOk n N f a) (h : sure all f o = true) : Region.wanted o (yielded all a.tmps) = true := by
  unfold sure at h
  split at h
  · rename_i hg; simp [Region.wanted, hg]
  · rename_i gi want hg
    split at h
    · cases h
    · rename_i k hd
      have hok := hf.ok k
      split at h
      · rename_i b hl
        rw [hl] at hok
        obtain ⟨x, hx, hm⟩ := hok
        simp only [SV.den, SB.den, Option.some.injEq] at hx; subst hx
        have : Region.wanted o (yielded all a.tmps) = (yielded all a.tmps gi == some want) := by simp [Region.wanted, hg]
        rw [this, yielded_at hd, hm]
        simpa using h
      · cases h

theorem opE_sound {E : Env} (hT : TabOk E.P T) {all : Array Oper} {i : Nat} {o : Oper} {s s' : St} (ho : all[i]? = some o) (hs : opE T E.n all i s = some s') {N : Nums} {a : Act} {w : World} (hf : FrOk E.n N s.fr a) (h : Sat E N s.rg w) :
    Region.wanted o (yielded all a.tmps) = true ∧ ∃ N' x w', N.le N' ∧ Eng.Yields E.P a.eval o w x w' ∧ FrOk E.n N' s'.fr (a.put o.dst x) ∧ Sat E N' s'.rg w' := by
  unfold opE at hs
  have ho' : nth all.toList i = some o := by rw [nth_eq]; simpa using ho
  simp only [ho'] at hs
  cases hsu : sure all s.fr o with
  | false => rw [hsu] at hs; simp at hs
  | true =>
    rw [hsu] at hs
    simp only [cond_true] at hs
    refine ⟨sure_sound hf hsu, ?_⟩
    split at hs
    · rename_i v rg hv
      split at hs
      · rename_i f hp
        simp only [Option.some.injEq] at hs; subst hs
        obtain ⟨N', x, w', h1, h2, h3, h4⟩ := stepE_sound hT h (fun x v hx => ev_sound hf hx) hv
        exact ⟨N', x, w', h1, h3, putO_sound (hf.mono h1) h2 hp, h4⟩
      · cases hs
    · cases hs

theorem wp_of_yields {P : Program} {o : Oper} {a : Act} {w w' : World} {x : Value} (hy : Eng.Yields P a.eval o w x w') {K : Act → World → Prop} {Q : Exit → Act → World → Prop} (h : K (a.put o.dst x) w') : o.wp P a w K Q := by
  unfold Oper.wp
  rcases hy with hy | ⟨hy, rfl⟩
  · rw [hy]; exact h
  · rw [hy]; exact h

/-- what one operation does, whatever comes then -/
theorem opStep_sound (hT : TabOk E.P T) {all : Array Oper} {i : Nat} {s s' : St} (hs : opStep T E.n all i s = some s') {N : Nums} {a : Act} {w : World} (hf : FrOk E.n N s.fr a) (h : Sat E.toEnv N s.rg w)
    {Q : Exit → Act → World → Prop} {rest : List Nat} (hk : ∀ N' a' w', N.le N' → FrOk E.n N' s'.fr a' → Sat E.toEnv N' s'.rg w' → wpOps E.P all Q rest a' w') : wpOps E.P all Q (i :: rest) a w := by
  unfold opStep at hs
  cases ho : all[i]? with
  | none =>
    have ho' : nth all.toList i = none := by rw [nth_eq]; simpa using ho
    unfold opQ opE at hs
    simp [ho'] at hs
  | some o =>
    split at hs
    · rename_i f hq
      simp only [Option.some.injEq] at hs; subst hs
      obtain ⟨v, hv, hfr⟩ := opQ_sound hT ho hq hf h.vis
      simp only [wpOps, ho]
      rcases hv with ⟨hw, hrun⟩ | ⟨hw, rfl⟩
      · rw [hw, if_pos rfl]
        exact .inl (wp_of_yields (.inl (hrun w h.vis)) (hk N _ w (Nums.le.refl N) hfr h))
      · rw [hw]
        exact hk N _ w (Nums.le.refl N) hfr h
    · obtain ⟨hw, N', x, w', h1, h2, h3, h4⟩ := opE_sound hT ho hs hf h
      simp only [wpOps, ho]
      rw [hw, if_pos rfl]
      exact .inl (wp_of_yields h2 (hk N' _ w' h1 h3 h4))

theorem memN_mask {ks : List Nat} : ∀ (rg : List Rg) (i r : Nat), (maskRg ks rg i)[r]? = (rg[r]?).map (fun g => bif memN ks (i + r) then ⟨false, [], none⟩ else g)
  | [], i, r => by simp [maskRg]
  | g :: rg, i, 0 => by simp [maskRg]
  | g :: rg, i, r + 1 => by
    simp only [maskRg, List.getElem?_cons_succ]
    rw [memN_mask rg (i + 1) r, show i + 1 + r = i + (r + 1) by omega]

theorem maskRg_length {ks : List Nat} : ∀ (rg : List Rg) (i : Nat), (maskRg ks rg i).length = rg.length
  | [], _ => rfl
  | g :: rg, i => by simp [maskRg, maskRg_length rg (i + 1)]

theorem Vis.mask {N : Nums} {rg : List Rg} {w : World} (h : Vis N rg w) (ks : List Nat) : Vis N (maskRg ks rg 0) w := by
  refine ⟨by rw [maskRg_length]; exact h.len, fun r g p hg hp j c hc => ?_, fun r g p hg hp ho => ?_⟩
  · rw [memN_mask] at hg
    obtain ⟨g0, h1, h2⟩ := Option.map_eq_some_iff.1 hg
    cases hm : memN ks (0 + r) with
    | true => rw [hm] at h2; simp at h2; subst h2; simp at hc
    | false => rw [hm] at h2; simp at h2; subst h2; exact h.cell r g0 p h1 hp j c hc
  · rw [memN_mask] at hg
    obtain ⟨g0, h1, h2⟩ := Option.map_eq_some_iff.1 hg
    cases hm : memN ks (0 + r) with
    | true => rw [hm] at h2; simp at h2; subst h2; simp
    | false => rw [hm] at h2; simp at h2; subst h2; exact h.ext r g0 p h1 hp ho

theorem Vis.mono {N N' : Nums} {rg : List Rg} {w : World} (h : Vis N rg w) (hN : N.le N') : Vis N' rg w := by
  have hl : rg.length ≤ N'.length := by
    rcases Nat.lt_or_ge N'.length rg.length with hlt | hge
    · have h1 : N'.length < N.length := Nat.lt_of_lt_of_le hlt h.len
      have := hN N'.length _ (List.getElem?_eq_getElem h1)
      simp at this
    · exact hge
  refine ⟨hl, fun r g p hg hp j c hc => ?_, fun r g p hg hp ho => ?_⟩
  · have hr : r < N.length := Nat.lt_of_lt_of_le (List.getElem?_eq_some_iff.1 hg).1 h.len
    have := hN r _ (List.getElem?_eq_getElem hr)
    rw [this] at hp
    obtain ⟨v, h1, h2⟩ := h.cell r g p hg (by rw [List.getElem?_eq_getElem hr]; exact hp) j c hc
    exact ⟨v, SV.den_mono hN c h1, h2⟩
  · have hr : r < N.length := Nat.lt_of_lt_of_le (List.getElem?_eq_some_iff.1 hg).1 h.len
    have := hN r _ (List.getElem?_eq_getElem hr)
    rw [this] at hp
    exact h.ext r g p hg (by rw [List.getElem?_eq_getElem hr]; exact hp) ho

/-- outside the regions ks all is as it was -/
def Agree (ks : List Nat) (rg rg' : List Rg) : Prop := ∀ (r : Nat) (g : Rg), rg[r]? = some g → memN ks r = false → rg'[r]? = some g

theorem vis_of_agree {E : Env} {ks : List Nat} {rg rg' : List Rg} {N N' : Nums} {w w' : World} (h0 : Vis N (maskRg ks rg 0) w) (hN : N.le N') (ha : Agree ks rg rg') (hS : Sat E N' rg' w') : Vis N (maskRg ks rg 0) w' := by
  refine ⟨h0.len, fun r g p hg hp j c hc => ?_, h0.ext⟩
  obtain ⟨v, h1, _⟩ := h0.cell r g p hg hp j c hc
  refine ⟨v, h1, ?_⟩
  rw [memN_mask] at hg
  obtain ⟨g0, k1, k2⟩ := Option.map_eq_some_iff.1 hg
  cases hm : memN ks (0 + r) with
  | true => rw [hm] at k2; simp at k2; subst k2; simp at hc
  | false =>
    rw [hm] at k2; simp at k2; subst k2
    obtain ⟨u, q1, q2⟩ := hS.cell r g0 p (ha r g0 k1 (by simpa using hm)) (hN r p hp) j c hc
    rw [SV.den_mono hN c h1] at q1; cases q1
    exact q2

theorem stepE_agree {ks : List Nat} {rg : List Rg} {all : Array Oper} {i : Nat} {s s' : St} {n : Nat} (ha : Agree ks rg s.rg) (hl : rg.length ≤ s.rg.length) (hk : (match stR s.fr all i with | some k => memN ks k | none => true) = true) (he : opE T n all i s = some s') :
    Agree ks rg s'.rg ∧ rg.length ≤ s'.rg.length := by
  unfold opE at he
  split at he
  · cases he
  · rename_i o ho
    cases hsu : sure all s.fr o with
    | false => rw [hsu] at he; simp at he
    | true =>
      rw [hsu] at he
      simp only [cond_true] at he
      split at he
      · rename_i v rg' hv
        split at he
        · rename_i f' hp
          simp only [Option.some.injEq] at he; subst he
          obtain ⟨h1, h2⟩ := stepE_keeps hv
          refine ⟨fun r g0 hg hm => h1 r g0 (ha r g0 hg hm) (fun e => ?_), Nat.le_trans hl h2⟩
          have hst : stR s.fr all i = some r := by simp only [stR, ho, e]
          rw [hst] at hk
          simp only at hk
          rw [hk] at hm; cases hm
        · cases he
      · cases he

/-- at a panic nobody looks at the frame -/
def PanicOk (Q : Exit → Act → World → Prop) : Prop := ∀ c a d v w, Q (.panic c) (Act.put a d v) w → Q (.panic c) a w

theorem PanicOk.sem {P : Program} {B : SchT} {Q : Exit → Act → World → Prop} (h : PanicOk Q) : ∀ k, PanicOk (sem P B k Q)
  | [] => h
  | .code _ :: k => fun c a d v w hq => PanicOk.sem h k c a d v w hq
  | .blk _ :: k => fun c a d v w hq => PanicOk.sem h k c a d v w hq
  | .ops _ _ :: k => fun c a d v w hq => PanicOk.sem h k c a d v w hq
  | .lp _ :: k => fun c a d v w hq => PanicOk.sem h k c a d v w hq
  | .res _ :: k => fun c a d v w hq => PanicOk.sem h k c a d v w hq
  | .inl _ :: k => fun c a d v w hq => PanicOk.sem h k c a d v w hq

theorem adv_sound (hT : TabOk E.P T) {rs : List ResultVar} {t t' : List It} {s s' : St} (h : adv T E.n rs t s = some (t', s')) (hx : X E t' s') : X E t s := by
  intro N a w hN hf hS
  unfold adv at h
  split at h
  · cases h
  · cases h
  · cases h
  · cases h
  · simp only [Option.some.injEq, Prod.mk.injEq] at h; obtain ⟨rfl, rfl⟩ := h
    exact hx N a w hN hf hS
  · simp only [Option.some.injEq, Prod.mk.injEq] at h; obtain ⟨rfl, rfl⟩ := h
    exact hx N a w hN hf hS
  · rename_i all i rest k
    split at h
    · rename_i s1 hs
      simp only [Option.some.injEq, Prod.mk.injEq] at h; obtain ⟨rfl, rfl⟩ := h
      show wpOps _ _ _ _ _ _
      exact opStep_sound hT hs hf hS (fun N' a' w' hN' hf' hS' => hx N' a' w' (hN.trans hN') hf' hS')
    · cases h
  · rename_i c k
    show _ → Code.wp _ _ _ _ _
    intro hreg
    split at h
    · simp only [Option.some.injEq, Prod.mk.injEq] at h; obtain ⟨rfl, rfl⟩ := h
      exact wp_skip (hx N a w hN hf hS)
    · simp only [Option.some.injEq, Prod.mk.injEq] at h; obtain ⟨rfl, rfl⟩ := h
      exact wp_label (hx N a w hN hf hS)
    · simp only [Option.some.injEq, Prod.mk.injEq] at h; obtain ⟨rfl, rfl⟩ := h
      simp only [regsB, Bool.and_eq_true] at hreg
      exact wp_seq (wp_mono (hx N a w hN hf hS hreg.1) (fun e a w hq => by cases e <;> first | exact hq hreg.2 | exact hq))
    · simp only [Option.some.injEq, Prod.mk.injEq] at h; obtain ⟨rfl, rfl⟩ := h
      exact wp_block (hx N a w hN hf hS hreg)
    · rename_i id ops d
      split at h
      · simp only [Option.some.injEq, Prod.mk.injEq] at h; obtain ⟨rfl, rfl⟩ := h
        exact wp_region (hx N a w hN hf hS)
      · cases h
    · rename_i id
      split at h
      · rename_i k' hu
        simp only [Option.some.injEq, Prod.mk.injEq] at h; obtain ⟨rfl, rfl⟩ := h
        exact wp_exit (unwind_sound k hu (hx N a w hN hf hS))
      · cases h
    · rename_i c x y
      simp only [regsB, Bool.and_eq_true] at hreg
      split at h
      · rename_i b hc
        simp only [Option.some.injEq, Prod.mk.injEq] at h; obtain ⟨rfl, rfl⟩ := h
        have := ev_sound hf hc
        simp only [SV.den, SB.den, Option.some.injEq] at this
        refine wp_cond (t := b) this.symm ?_
        have := hx N a w hN hf hS
        cases b
        · exact this hreg.2
        · exact this hreg.1
      · cases h
    · split at h
      · simp only [Option.some.injEq, Prod.mk.injEq] at h; obtain ⟨rfl, rfl⟩ := h
        exact wp_ret (hx N a w hN hf hS)
      · cases h
    · cases h

end
end Go.Eng
