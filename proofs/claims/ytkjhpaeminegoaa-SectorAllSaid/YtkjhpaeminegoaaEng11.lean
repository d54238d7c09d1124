/- The symbolic executor, part 11: loops unrolled, calls carried out in place; in regions that draw their order, too. -/
import Derived.Test.YtkjhpaeminegoaaEng10

namespace Go.Eng

/-! ### functions that may be carried out in place -/
structure FI where
  body : Code
  n : Nat
  rs : List ResultVar
  T : Tab
  B : SchT

def FI.of (fn : Func) (T : Tab) (B : SchT) : FI := ⟨fn.body.getD .skip, fn.ntmps, fn.results.toList, T, B⟩


structure FOk (P : Program) (g : Nat) (fi : FI) : Prop where
  ex : ∃ fn c, P.funcs[g]? = some fn ∧ fn.body = some c ∧ fi.body = c ∧ fi.n = fn.ntmps ∧ fi.rs = fn.results.toList ∧ regsB fi.B c = true
  tab : TabOk P fi.T
  call : ∀ args w, (callFunc g args).run P w = .ok (.enter g args) w

theorem FOk.of {P : Program} {g : Nat} {fn : Func} {T : Tab} {c : Code} (h : P.funcs[g]? = some fn) (hb : fn.body = some c) (hT : TabOk P T) {B : SchT} (hB : regsO B fn.body = true) (hc : ∀ args w, (callFunc g args).run P w = .ok (.enter g args) w) : FOk P g (FI.of fn T B) :=
  ⟨⟨fn, c, h, hb, by simp [FI.of, hb], rfl, rfl, by rw [hb] at hB; exact hB⟩, hT, hc⟩

abbrev FT := List (Nat × FI)

def lookF : FT → Nat → Option FI
  | [], _ => none
  | (k, v) :: r, t => bif Nat.beq k t then some v else lookF r t

inductive FTok (P : Program) : FT → Prop
  | nil : FTok P []
  | cons {g : Nat} {fi : FI} {F : FT} : FOk P g fi → FTok P F → FTok P ((g, fi) :: F)

theorem FTok.look {P : Program} : ∀ {F : FT}, FTok P F → ∀ {g : Nat} {fi : FI}, lookF F g = some fi → FOk P g fi
  | _, .nil, g, fi, h => by simp [lookF] at h
  | (k, v) :: r, .cons h1 h2, g, fi, h => by
    simp only [lookF] at h
    by_cases hk : k = g
    · subst hk; simp at h; subst h; exact h1
    · simp only [beq_ne hk, cond_false] at h; exact FTok.look h2 h

def app (a b : List Nat) : List Nat :=
  match a with
  | [] => b
  | x :: r => x :: app r b

abbrev Runner := Tab → SchT → Nat → List ResultVar → List It → St → List It × St × List Nat

/-- the function that a value is, and what it has captured -/
def fnOf : SV → Option (Nat × List SV)
  | .fn g cs => some (g, cs)
  | .raw (.func (.func g) ⟨[]⟩ ⟨[]⟩) => some (g, [])
  | _ => none

theorem fnOf_sound {N : Nums} {v : SV} {x : Value} {g : Nat} {cs : List SV} (hv : v.den N = some x) (h : fnOf v = some (g, cs)) : ∃ cl, x = .func (.func g) #[] (List.toArray cl) ∧ SV.denL N cs = some cl := by
  unfold fnOf at h
  split at h
  · simp only [Option.some.injEq, Prod.mk.injEq] at h
    obtain ⟨rfl, rfl⟩ := h
    simp only [SV.den] at hv
    rename_i cs
    cases hl : SV.denL N cs with
    | none => simp [hl] at hv
    | some l => simp only [hl, Option.some.injEq] at hv; exact ⟨l, hv.symm, rfl⟩
  · simp only [Option.some.injEq, Prod.mk.injEq] at h
    obtain ⟨rfl, rfl⟩ := h
    simp only [SV.den, one?, if_true, Option.some.injEq] at hv
    exact ⟨[], hv.symm, rfl⟩
  · cases h

/-- the call that an operation is: the function, the arguments, the slot -/
def callQ (F : FT) (all : Array Oper) (i : Nat) (s : St) : Option (FI × List SV × Option Nat) :=
  match nth all.toList i with
  | none => none
  | some o => bif sure all s.fr o then
      match o.op with
      | .call c => match c.callee with
        | .value f => match ev s.fr f with
          | some v => match fnOf v with
            | some (g, cs) => match lookF F g, evL s.fr c.args.toList with
              | some fi, some l => bif Nat.ble (l ++ cs).length fi.n then some (fi, l ++ cs, o.dst) else none
              | _, _ => none
            | none => none
          | none => none
        | _ => none
      | _ => none
    else none

def endC (n : Nat) (f : Fr) (d : Option Nat) (fi : FI) (s2 : St) (ws : List Nat) : Option (St × List Nat) :=
  match resL fi.T s2 fi.rs with
  | some r => match putO n f d (.val (resV r)) with
    | some f' => some (⟨f', s2.rg⟩, ws)
    | none => none
  | none => none

def callC (F : FT) (run : Runner) (n : Nat) (all : Array Oper) (i : Nat) (s : St) : Option (St × List Nat) :=
  match callQ F all i s with
  | some (fi, l, d) => match run fi.T fi.B fi.n fi.rs [.code fi.body] ⟨argFr l 0, s.rg⟩ with
    | (.res _ :: _, s2, ws) => endC n s.fr d fi s2 ws
    | ([], s2, ws) => endC n s.fr d fi s2 ws
    | _ => none
  | none => none

abbrev Caller := Nat → St → Option (St × List Nat)

/-- which regions an operation writes -/
abbrev KW := List (Nat × List Nat)

def dryS (T : Tab) (n : Nat) (all : Array Oper) (call : Caller) : Sch → St → KW
  | [], _ => []
  | (i, _) :: r, s =>
    match opStep T n all i s with
    | some s' => match stR s.fr all i with
      | some k => (i, [k]) :: dryS T n all call r s'
      | none => dryS T n all call r s'
    | none => match call i s with
      | some (s', ws) => (i, ws) :: dryS T n all call r s'
      | none => []

def allN (ks : List Nat) : List Nat → Bool
  | [] => true
  | w :: ws => memN ks w && allN ks ws

/-- the regions that some operations write -/
def flatK (f : Nat → Bool) : KW → List Nat
  | [] => []
  | (j, ks) :: r => bif f j then app ks (flatK f r) else flatK f r

/-- it writes nothing -/
def quietK : KW → Nat → Bool
  | [], _ => true
  | (j, _) :: r, i => !Nat.beq j i && quietK r i

def lookK : KW → Nat → List Nat
  | [], _ => []
  | (j, ks) :: r, i => bif Nat.beq j i then ks else lookK r i

def anyS (T : Tab) (n : Nat) (all : Array Oper) (K : KW) (rg : List Rg) (call : Caller) : Sch → St → Option St
  | [], s => some s
  | (i, some blk) :: r, s => bif quietK K i then
      match opQ T n all (maskRg (flatK (memB blk) K) rg 0) i s.fr with
      | some f => anyS T n all K rg call r ⟨f, s.rg⟩
      | none => none
    else none
  | (i, none) :: r, s => match opQ T n all s.rg i s.fr with
    | some f => anyS T n all K rg call r ⟨f, s.rg⟩
    | none => match opE T n all i s with
      | some s' => bif (match stR s.fr all i with | some k => memN (lookK K i) k | none => true) then anyS T n all K rg call r s' else none
      | none => match call i s with
        | some (s', ws) => bif allN (lookK K i) ws then anyS T n all K rg call r s' else none
        | none => none

/-- is nothing in it but what may be taken first? -/
def allQ : Sch → Bool
  | [] => true
  | (_, q) :: r => q.isSome && allQ r

def drawnK (T : Tab) (n : Nat) (all : Array Oper) (call : Caller) (sch : Sch) (s : St) (K : KW) : Option (St × List Nat) :=
  match anyS T n all K s.rg call sch s with
  | some s' => some (s', flatK (fun _ => true) K)
  | none => none

def drawnS (T : Tab) (n : Nat) (all : Array Oper) (call : Caller) (sch : Sch) (s : St) : Option (St × List Nat) :=
  bif allQ sch then drawnK T n all call sch s [] else drawnK T n all call sch s (dryS T n all call sch s)

/-- the regions that a step writes -/
def wrs (t : List It) (s : St) : List Nat :=
  match t with
  | .ops all (i :: _) :: _ => match stR s.fr all i with
    | some r => [r]
    | none => []
  | _ => []

/-- go on, m steps at most; calls of F's functions are carried out, loops unrolled if u says so -/
def runC (F : FT) (u : Bool) : Nat → Tab → SchT → Nat → List ResultVar → List Nat → List It → St → List It × St × List Nat
  | 0, _, _, _, _, ws, t, s => (t, s, ws)
  | m + 1, T, B, n, rs, ws, t, s =>
    match adv T n rs t s with
    | some (t', s') => runC F u m T B n rs (app (wrs t s) ws) t' s'
    | none => match t with
      | .ops all (i :: rest) :: k => match callC F (fun T B n rs t s => runC F u m T B n rs [] t s) n all i s with
        | some (s', ws') => runC F u m T B n rs (app ws' ws) (.ops all rest :: k) s'
        | none => (t, s, ws)
      | .code c :: k => match c with
        | .region id ops d => match d with
          | true => match lookS B id with
            | some sch => match drawnS T n ops (fun i s => callC F (fun T B n rs t s => runC F u m T B n rs [] t s) n ops i s) sch s with
              | some (s', ws') => runC F u m T B n rs (app ws' ws) k s'
              | none => (t, s, ws)
            | none => (t, s, ws)
          | false => (t, s, ws)
        | .loop c => match u with
          | true => runC F u m T B n rs ws (.code c :: .inl c :: k) s
          | false => (t, s, ws)
        | _ => (t, s, ws)
      | .inl c :: k => runC F u m T B n rs ws (.code c :: .inl c :: k) s
      | _ => (t, s, ws)

/-! ### soundness -/
theorem memN_app (a b : List Nat) (r : Nat) : memN (app a b) r = (memN a r || memN b r) := by
  induction a with
  | nil => rfl
  | cons x a ih => simp [app, memN, ih, Bool.or_assoc]

theorem Agree.refl (ks : List Nat) (rg : List Rg) : Agree ks rg rg := fun _ _ h _ => h
theorem Agree.trans {a b : List Nat} {x y z : List Rg} (h : Agree a x y) (k : Agree b y z) : Agree (app b a) x z := fun r g hg hm => by
  rw [memN_app, Bool.or_eq_false_iff] at hm
  exact k r g (h r g hg hm.2) hm.1
theorem Agree.mono {a b : List Nat} {x y : List Rg} (h : Agree a x y) (k : ∀ r, memN b r = false → memN a r = false) : Agree b x y := fun r g hg hm => h r g hg (k r hm)

theorem allN_spec {ks : List Nat} : ∀ {ws : List Nat}, allN ks ws = true → ∀ r, memN ks r = false → memN ws r = false
  | [], _, r, _ => rfl
  | w :: ws, h, r, hr => by
    simp only [allN, Bool.and_eq_true] at h
    simp only [memN, Bool.or_eq_false_iff]
    refine ⟨?_, allN_spec h.2 r hr⟩
    cases e : Nat.beq w r with
    | false => rfl
    | true => have := Nat.eq_of_beq_eq_true e; subst this; rw [h.1] at hr; cases hr

/-- as told: outside ks all is as it was, and no region is lost -/
structure Keeps (ks : List Nat) (rg rg' : List Rg) : Prop where
  agree : Agree ks rg rg'
  len : rg.length ≤ rg'.length

theorem Keeps.refl (ks : List Nat) (rg : List Rg) : Keeps ks rg rg := ⟨Agree.refl _ _, Nat.le_refl _⟩
theorem Keeps.trans {a b : List Nat} {x y z : List Rg} (h : Keeps a x y) (k : Keeps b y z) : Keeps (app b a) x z := ⟨h.agree.trans k.agree, Nat.le_trans h.len k.len⟩

theorem opE_keeps {T : Tab} {n : Nat} {all : Array Oper} {i : Nat} {s s' : St} (he : opE T n all i s = some s') : Keeps (match stR s.fr all i with | some r => [r] | none => []) s.rg s'.rg := by
  have key : (match stR s.fr all i with | some k => memN (match stR s.fr all i with | some r => [r] | none => []) k | none => true) = true := by
    cases hst : stR s.fr all i with
    | some k => simp [memN]
    | none => rfl
  obtain ⟨h1, h2⟩ := stepE_agree (Agree.refl _ _) (Nat.le_refl _) key he
  exact ⟨h1, h2⟩

theorem opStep_keeps {T : Tab} {n : Nat} {all : Array Oper} {i : Nat} {s s' : St} (he : opStep T n all i s = some s') : Keeps (match stR s.fr all i with | some r => [r] | none => []) s.rg s'.rg := by
  unfold opStep at he
  split at he
  · simp only [Option.some.injEq] at he; subst he; exact Keeps.refl _ _
  · exact opE_keeps he

theorem bif_none {b : Bool} {α : Type} {x : Option α} {y : α} (h : (bif b then x else none) = some y) : b = true ∧ x = some y := by
  cases b with
  | true => exact ⟨rfl, h⟩
  | false => simp at h

theorem adv_keeps {T : Tab} {n : Nat} {rs : List ResultVar} {t t' : List It} {s s' : St} (h : adv T n rs t s = some (t', s')) : Keeps (wrs t s) s.rg s'.rg := by
  unfold adv at h
  split at h
  · cases h
  · cases h
  · cases h
  · cases h
  · simp only [Option.some.injEq, Prod.mk.injEq] at h; obtain ⟨_, rfl⟩ := h; exact Keeps.refl _ _
  · simp only [Option.some.injEq, Prod.mk.injEq] at h; obtain ⟨_, rfl⟩ := h; exact Keeps.refl _ _
  · split at h
    · rename_i s1 hs
      simp only [Option.some.injEq, Prod.mk.injEq] at h; obtain ⟨_, rfl⟩ := h
      exact opStep_keeps hs
    · cases h
  · split at h
    · simp only [Option.some.injEq, Prod.mk.injEq] at h; obtain ⟨_, rfl⟩ := h; exact Keeps.refl _ _
    · simp only [Option.some.injEq, Prod.mk.injEq] at h; obtain ⟨_, rfl⟩ := h; exact Keeps.refl _ _
    · simp only [Option.some.injEq, Prod.mk.injEq] at h; obtain ⟨_, rfl⟩ := h; exact Keeps.refl _ _
    · simp only [Option.some.injEq, Prod.mk.injEq] at h; obtain ⟨_, rfl⟩ := h; exact Keeps.refl _ _
    · split at h
      · simp only [Option.some.injEq, Prod.mk.injEq] at h; obtain ⟨_, rfl⟩ := h; exact Keeps.refl _ _
      · cases h
    · split at h
      · simp only [Option.some.injEq, Prod.mk.injEq] at h; obtain ⟨_, rfl⟩ := h; exact Keeps.refl _ _
      · cases h
    · split at h
      · simp only [Option.some.injEq, Prod.mk.injEq] at h; obtain ⟨_, rfl⟩ := h; exact Keeps.refl _ _
      · cases h
    · split at h
      · simp only [Option.some.injEq, Prod.mk.injEq] at h; obtain ⟨_, rfl⟩ := h; exact Keeps.refl _ _
      · cases h
    · cases h

/-- what a caller is to do -/
def CallerOk (P : Program) (n : Nat) (all : Array Oper) (call : Caller) : Prop :=
  ∀ i s s' ws, call i s = some (s', ws) → Keeps ws s.rg s'.rg ∧ ∃ o, all[i]? = some o ∧ ∀ (E : Env) (N : Nums) (a : Act) (w : World), E.P = P → E.n = n → FrOk n N s.fr a → Sat E N s.rg w → Region.wanted o (yielded all a.tmps) = true ∧
    ∀ (K : Act → World → Prop) (Q : Exit → Act → World → Prop), (∀ N' x w', N.le N' → FrOk n N' s'.fr (a.put o.dst x) → Sat E N' s'.rg w' → K (a.put o.dst x) w') → o.wp P a w K Q

theorem memN_flat {f : Nat → Bool} : ∀ {K : KW} {r : Nat}, memN (flatK f K) r = true ↔ ∃ p ∈ K, f p.1 = true ∧ memN p.2 r = true
  | [], r => by simp [flatK, memN]
  | (j, ks) :: K, r => by
    simp only [flatK]
    cases hf : f j with
    | true => simp [memN_app, memN_flat (K := K), hf]
    | false => simp [memN_flat (K := K), hf]

theorem lookK_mem : ∀ {K : KW} {i r : Nat}, memN (lookK K i) r = true → ∃ p ∈ K, p.1 = i ∧ memN p.2 r = true
  | [], i, r, h => by simp [lookK, memN] at h
  | (j, ks) :: K, i, r, h => by
    simp only [lookK] at h
    cases hj : Nat.beq j i with
    | true => rw [hj] at h; exact ⟨(j, ks), by simp, Nat.eq_of_beq_eq_true hj, h⟩
    | false =>
      rw [hj] at h
      obtain ⟨p, h1, h2⟩ := lookK_mem (K := K) h
      exact ⟨p, by simp [h1], h2⟩

theorem quietK_spec : ∀ {K : KW} {i : Nat}, quietK K i = true → ∀ p ∈ K, p.1 ≠ i
  | [], i, h, p, hp => by simp at hp
  | (j, ks) :: K, i, h, p, hp => by
    simp only [quietK, Bool.and_eq_true, Bool.not_eq_true'] at h
    rcases List.mem_cons.1 hp with rfl | hp
    · intro e
      simp only at e
      subst e
      have := h.1; simp at this
    · exact quietK_spec h.2 p hp

/-- with more regions masked it says less -/
theorem Vis.more {N : Nums} {rg : List Rg} {w : World} {ks ks' : List Nat} (h : Vis N (maskRg ks rg 0) w) (hk : ∀ r, memN ks r = true → memN ks' r = true) : Vis N (maskRg ks' rg 0) w := by
  have one : ∀ (r : Nat) (g : Rg), (maskRg ks' rg 0)[r]? = some g → g = ⟨false, [], none⟩ ∨ (maskRg ks rg 0)[r]? = some g := by
    intro r g hg
    rw [memN_mask] at hg
    obtain ⟨g0, h1, h2⟩ := Option.map_eq_some_iff.1 hg
    cases hm : memN ks' (0 + r) with
    | true => rw [hm] at h2; simp at h2; exact .inl h2.symm
    | false =>
      rw [hm] at h2; simp at h2; subst h2
      right
      rw [memN_mask, h1]
      have : memN ks (0 + r) = false := by
        cases hks : memN ks (0 + r) with
        | true => rw [hk _ hks] at hm; cases hm
        | false => rfl
      rw [Nat.zero_add] at this
      simp [this]
  refine ⟨by have := h.len; rwa [maskRg_length] at this ⊢, fun r g p hg hp j c hc => ?_, fun r g p hg hp ho => ?_⟩
  · rcases one r g hg with rfl | hg
    · simp at hc
    · exact h.cell r g p hg hp j c hc
  · rcases one r g hg with rfl | hg
    · simp at ho
    · exact h.ext r g p hg hp ho

theorem anyS_keeps {P : Program} {T : Tab} {n : Nat} {all : Array Oper} {K : KW} {rg0 : List Rg} {call : Caller} (hc : CallerOk P n all call) : ∀ (sch : Sch) {s s' : St}, anyS T n all K rg0 call sch s = some s' → Keeps (flatK (fun _ => true) K) s.rg s'.rg
  | [], s, s', h => by
    simp only [anyS, Option.some.injEq] at h; subst h; exact Keeps.refl _ _
  | (i, some blk) :: r, s, s', h => by
    simp only [anyS] at h
    obtain ⟨_, h⟩ := bif_none h
    split at h
    · have h2 := anyS_keeps hc r h
      exact h2
    · cases h
  | (i, none) :: r, s, s', h => by
    have up : ∀ k, memN (lookK K i) k = true → memN (flatK (fun _ => true) K) k = true := fun k hk => by
      obtain ⟨p, h1, _, h3⟩ := lookK_mem hk
      exact memN_flat.2 ⟨p, h1, rfl, h3⟩
    simp only [anyS] at h
    split at h
    · have h2 := anyS_keeps hc r h
      exact h2
    · split at h
      · rename_i s1 he
        obtain ⟨hm, h⟩ := bif_none h
        have h1 := stepE_agree (Agree.refl (flatK (fun _ => true) K) s.rg) (Nat.le_refl _) (by cases hst : stR s.fr all i with | some k => rw [hst] at hm; exact up k hm | none => rfl) he
        have h2 := anyS_keeps hc r h
        exact ⟨fun r g hg hr => h2.agree r g (h1.1 r g hg hr) hr, Nat.le_trans h1.2 h2.len⟩
      · split at h
        · rename_i s1 ws he
          obtain ⟨hm, h⟩ := bif_none h
          obtain ⟨h1, _⟩ := hc _ _ _ _ he
          have h2 := anyS_keeps hc r h
          refine ⟨fun r g hg hr => h2.agree r g (h1.agree r g hg (allN_spec hm r ?_)) hr, Nat.le_trans h1.len h2.len⟩
          cases hl : memN (lookK K i) r with
          | true => rw [up r hl] at hr; cases hr
          | false => rfl
        · cases h

theorem only_spec {l : List Nat} {i : Nat} (h : only l i = true) : l = [i] := by
  unfold only at h
  split at h
  · rw [Nat.eq_of_beq_eq_true h]
  · cases h

/-- the regions that those that have come up may have written -/
abbrev wrL (K : KW) (L : Array Bool) : List Nat := flatK (fun j => L.getD j false) K

theorem anyS_sound {E : Env} {T : Tab} (hT : TabOk E.P T) {all : Array Oper} (hsel : Region.noSelect all = true) {Q : Exit → Act → World → Prop} (hQ : PanicOk Q) {call : Caller} (hc : CallerOk E.P E.n all call) {K : KW} {rg : List Rg} {Nf : Nums} (wf : World) (hV : Vis Nf rg wf) : ∀ (sch : Sch) (listed : Array Bool) {s s' : St} {N : Nums} {a : Act} {w : World},
    schOk all sch listed = true → listed.size = all.size → anyS T E.n all K rg call sch s = some s' → Nf.le N → FrOk E.n N s.fr a → Sat E N s.rg w → Agree (wrL K listed) rg s.rg → rg.length ≤ s.rg.length →
    (∀ N' a' w', N.le N' → FrOk E.n N' s'.fr a' → Sat E N' s'.rg w' → Q .normal a' w') → wpF E.P all Q (fun L => Vis Nf (maskRg (wrL K L) rg 0)) sch.length listed a w := by
  have emp : ∀ {l : List Nat}, l.isEmpty = true → l = [] := by intro l h; cases l <;> simp at h ⊢
  have see : ∀ (L : Array Bool) {N : Nums} {rg' : List Rg} {w : World}, Nf.le N → Agree (wrL K L) rg rg' → Sat E N rg' w → Vis Nf (maskRg (wrL K L) rg 0) w := fun L _ _ _ hN ha hS => vis_of_agree (hV.mask _) hN ha hS
  intro sch
  induction sch with
  | nil =>
    intro listed s s' N a w hs hn hg hN hf hS ha hl hk
    simp only [anyS, Option.some.injEq] at hg; subst hg
    exact wpF.done (emp hs) (hk N a w (Nums.le.refl N) hf hS)
  | cons p r ih =>
    obtain ⟨i, q⟩ := p
    intro listed s s' N a w hs hn hg hN hf hS ha hl hk
    have hS0 := see listed hN ha hS
    cases q with
    | some blk =>
      simp only [schOk, Bool.and_eq_true] at hs
      obtain ⟨⟨⟨⟨hr, hfree⟩, hclosed⟩, hwithin⟩, hs⟩ := hs
      simp only [anyS] at hg
      obtain ⟨hqk, hg⟩ := bif_none hg
      have hqk := quietK_spec hqk
      have hrm : i ∈ Region.ready .any all listed := by simpa using hr
      have hi0 : listed.getD i false = false := by
        have h1 := (mem_ready.1 hrm).1
        rcases Nat.lt_or_ge i listed.size with h' | h'
        · simp [h'] at h1 ⊢; exact h1
        · rw [Array.getD_eq_getD_getElem?, Array.getElem?_eq_none h']; rfl
      have same : ∀ (L : Array Bool) (r : Nat), memN (wrL K (L.setIfInBounds i true)) r = true ↔ memN (wrL K L) r = true := fun L r => by
        simp only [wrL, memN_flat]
        constructor
        · rintro ⟨p, h1, h2, h3⟩
          exact ⟨p, h1, by rwa [getD_set_ne false (fun e => hqk p h1 e.symm)] at h2, h3⟩
        · rintro ⟨p, h1, h2, h3⟩
          exact ⟨p, h1, by rwa [getD_set_ne false (fun e => hqk p h1 e.symm)], h3⟩
      split at hg
      · rename_i f hq
        have hoj : ∃ o, all[i]? = some o := by
          cases ho : all[i]? with
          | some o => exact ⟨o, rfl⟩
          | none => unfold opQ at hq; rw [nth_eq] at hq; simp [ho] at hq
        obtain ⟨o, ho⟩ := hoj
        -- whoever may have come up ahead of it is of blk
        have wide : ∀ {L' : Array Bool} {w' : World}, Up all i listed L' → Vis Nf (maskRg (wrL K L') rg 0) w' → Vis Nf (maskRg (flatK (memB blk) K) rg 0) w' := fun hup hv =>
          hv.more fun r hr => by
            obtain ⟨p, h1, h2, h3⟩ := memN_flat.1 hr
            exact memN_flat.2 ⟨p, h1, (hup.within hclosed hn hi0 hwithin).2.2 _ h2, h3⟩
        obtain ⟨v, hv, hfr⟩ := opQ_sound hT ho hq hf ((wide .here hS0).mono hN)
        refine wpF.take ho hsel hfree hr (fun c a w h => hQ c a o.dst v w h) (fun L w => ⟨fun h => h.more fun r hr => (same L r).1 hr, fun h => h.more fun r hr => (same L r).2 hr⟩) ?_ hS0
          (ih _ hs (by simpa using hn) hg hN hfr hS (fun r g hg hm => ha r g hg (by
            cases hx : memN (wrL K listed) r with
            | true => rw [(same listed r).2 hx] at hm; cases hm
            | false => rfl)) hl hk)
        rcases hv with ⟨hw, hrun⟩ | ⟨hw, rfl⟩
        · exact .inl ⟨hw, fun w ⟨L', hup, hw⟩ => hrun w ((wide hup hw).mono hN)⟩
        · exact .inr ⟨hw, rfl⟩
      · cases hg
    | none =>
      simp only [schOk, Bool.and_eq_true] at hs
      obtain ⟨hr, hs⟩ := hs
      have hr := only_spec hr
      have hrm : i ∈ Region.ready .any all listed := by rw [hr]; simp
      have hlt : i < listed.size := by
        obtain ⟨_, o, ho, _⟩ := mem_ready.1 hrm
        rw [hn]; exact (Array.getElem?_eq_some_iff.1 ho).1
      have hset : (listed.setIfInBounds i true).getD i false = true := by simp [hlt]
      have grow : ∀ r, memN (wrL K listed) r = true → memN (wrL K (listed.setIfInBounds i true)) r = true := fun r h => by
        obtain ⟨p, h1, h2, h3⟩ := memN_flat.1 h
        refine memN_flat.2 ⟨p, h1, ?_, h3⟩
        by_cases e : i = p.1
        · rw [← e]; exact hset
        · rw [getD_set_ne false e]; exact h2
      have own : ∀ k, memN (lookK K i) k = true → memN (wrL K (listed.setIfInBounds i true)) k = true := fun k hk => by
        obtain ⟨p, h1, h2, h3⟩ := lookK_mem hk
        exact memN_flat.2 ⟨p, h1, by rw [h2]; exact hset, h3⟩
      have ha1 : Agree (wrL K (listed.setIfInBounds i true)) rg s.rg := ha.mono fun r hr => by
        cases hx : memN (wrL K listed) r with
        | true => rw [grow r hx] at hr; cases hr
        | false => rfl
      simp only [anyS] at hg
      split at hg
      · rename_i f hq
        have hoj : ∃ o, all[i]? = some o := by
          cases ho : all[i]? with
          | some o => exact ⟨o, rfl⟩
          | none => unfold opQ at hq; rw [nth_eq] at hq; simp [ho] at hq
        obtain ⟨o, ho⟩ := hoj
        obtain ⟨v, hv, hfr⟩ := opQ_sound hT ho hq hf hS.vis
        refine wpF.all hr (by simp) fun j hj => ?_
        simp only [List.mem_singleton] at hj; subst hj
        unfold wpOp
        simp only [ho]
        have hnext := ih _ hs (by simpa using hn) hg hN hfr hS ha1 hl hk
        rcases hv with ⟨hw, hrun⟩ | ⟨hw, rfl⟩
        · rw [hw, if_pos rfl]
          exact .inl (wp_of_yields (.inl (hrun w hS.vis)) ⟨see _ hN ha1 hS, hnext⟩)
        · rw [hw]
          exact ⟨see _ hN ha1 hS, hnext⟩
      · split at hg
        · rename_i s1 he
          obtain ⟨hm, hg2⟩ := bif_none hg
          have hoi : ∃ o, all[i]? = some o := by
            cases ho : all[i]? with
            | some o => exact ⟨o, rfl⟩
            | none => unfold opE at he; rw [nth_eq] at he; simp [ho] at he
          obtain ⟨o, ho⟩ := hoi
          obtain ⟨hw, N', x, w', h1, h2, h3, h4⟩ := opE_sound hT ho he hf hS
          obtain ⟨ha', hl'⟩ := stepE_agree ha1 hl (by cases hst : stR s.fr all i with | some k => rw [hst] at hm; exact own k hm | none => rfl) he
          refine wpF.all hr (by simp) fun j hj => ?_
          simp only [List.mem_singleton] at hj; subst hj
          unfold wpOp
          simp only [ho, hw, if_true]
          exact .inl (wp_of_yields h2 ⟨see _ (hN.trans h1) ha' h4, ih _ hs (by simpa using hn) hg2 (hN.trans h1) h3 h4 ha' hl' (fun N2 a2 w2 hN2 => hk N2 a2 w2 (h1.trans hN2))⟩)
        · split at hg
          · rename_i s1 ws he
            obtain ⟨hm, hg2⟩ := bif_none hg
            obtain ⟨h1, o, ho, h2⟩ := hc _ _ _ _ he
            obtain ⟨hw, h3⟩ := h2 E N a w rfl rfl hf hS
            refine wpF.all hr (by simp) fun j hj => ?_
            simp only [List.mem_singleton] at hj; subst hj
            unfold wpOp
            simp only [ho, hw, if_true]
            refine .inl (h3 _ _ fun N' x w' hN' hf' hS' => ?_)
            have ha' : Agree (wrL K (listed.setIfInBounds j true)) rg s1.rg := fun r g hg hr => h1.agree r g (ha1 r g hg hr) (allN_spec hm r (by
              cases hx : memN (lookK K j) r with
              | true => rw [own r hx] at hr; cases hr
              | false => rfl))
            exact ⟨see _ (hN.trans hN') ha' hS', ih _ hs (by simpa using hn) hg2 (hN.trans hN') hf' hS' ha' (Nat.le_trans hl h1.len) (fun N2 a2 w2 hN2 => hk N2 a2 w2 (hN'.trans hN2))⟩
          · cases hg

theorem wrL_none {K : KW} {n r : Nat} : memN (wrL K (Array.replicate n false)) r = false := by
  cases h : memN (wrL K (Array.replicate n false)) r with
  | false => rfl
  | true =>
    obtain ⟨p, _, h2, _⟩ := memN_flat.1 h
    rw [Array.getD_eq_getD_getElem?, Array.getElem?_replicate] at h2
    split at h2 <;> cases h2

theorem drawnK_sound {E : Env} {T : Tab} (hT : TabOk E.P T) {id : Nat} {all : Array Oper} {call : Caller} (hc : CallerOk E.P E.n all call) {sch : Sch} (hok : anyOk all sch = true) {K : KW} {s s' : St} {ws : List Nat} (hd : drawnK T E.n all call sch s K = some (s', ws)) {Q : Exit → Act → World → Prop} (hQ : PanicOk Q) {N : Nums} {a : Act} {w : World} (hf : FrOk E.n N s.fr a) (hS : Sat E N s.rg w)
    (hk : ∀ N' a' w', N.le N' → FrOk E.n N' s'.fr a' → Sat E N' s'.rg w' → Q .normal a' w') : (Code.region id all true).wp E.P Q a w := by
  have hS' : Sat E N s.rg { w with drawn := w.drawn + 1 } := hS.drew
  simp only [anyOk, Bool.and_eq_true] at hok
  obtain ⟨⟨hn, hlen⟩, hsch⟩ := hok
  have hlen := Nat.eq_of_beq_eq_true hlen
  unfold drawnK at hd
  split at hd
  · rename_i s1 h
    simp only [Option.some.injEq, Prod.mk.injEq] at hd
    obtain ⟨rfl, _⟩ := hd
    have := anyS_sound hT hn hQ hc _ hS'.vis sch _ hsch (by simp) h (Nums.le.refl N) hf hS' (fun r g hg _ => hg) (Nat.le_refl _) hk
    rw [hlen] at this
    exact wp_region_any hT.mixed this.any
  · cases hd

theorem drawnS_sound {E : Env} {T : Tab} (hT : TabOk E.P T) {id : Nat} {all : Array Oper} {call : Caller} (hc : CallerOk E.P E.n all call) {sch : Sch} (hok : anyOk all sch = true) {s s' : St} {ws : List Nat} (hd : drawnS T E.n all call sch s = some (s', ws)) {Q : Exit → Act → World → Prop} (hQ : PanicOk Q) {N : Nums} {a : Act} {w : World} (hf : FrOk E.n N s.fr a) (hS : Sat E N s.rg w)
    (hk : ∀ N' a' w', N.le N' → FrOk E.n N' s'.fr a' → Sat E N' s'.rg w' → Q .normal a' w') : (Code.region id all true).wp E.P Q a w := by
  unfold drawnS at hd
  cases hq : allQ sch with
  | true => rw [hq] at hd; exact drawnK_sound hT hc hok hd hQ hf hS hk
  | false => rw [hq] at hd; exact drawnK_sound hT hc hok hd hQ hf hS hk

theorem drawnK_keeps {P : Program} {T : Tab} {n : Nat} {all : Array Oper} {call : Caller} (hc : CallerOk P n all call) {sch : Sch} {K : KW} {s s' : St} {ws : List Nat} (hd : drawnK T n all call sch s K = some (s', ws)) : Keeps ws s.rg s'.rg := by
  unfold drawnK at hd
  split at hd
  · rename_i s1 h
    simp only [Option.some.injEq, Prod.mk.injEq] at hd
    obtain ⟨rfl, rfl⟩ := hd
    exact anyS_keeps hc _ h
  · cases hd

theorem drawnS_keeps {P : Program} {T : Tab} {n : Nat} {all : Array Oper} {call : Caller} (hc : CallerOk P n all call) {sch : Sch} {s s' : St} {ws : List Nat} (hd : drawnS T n all call sch s = some (s', ws)) : Keeps ws s.rg s'.rg := by
  unfold drawnS at hd
  cases hq : allQ sch with
  | true => rw [hq] at hd; exact drawnK_keeps hc hd
  | false => rw [hq] at hd; exact drawnK_keeps hc hd

theorem Sat.env {E E' : Env} {N : Nums} {rg : List Rg} {w : World} (h : Sat E N rg w) (h1 : E'.W = E.W) (h2 : E'.O = E.O) (h3 : E'.im = E.im) (h4 : E'.D = E.D) (h5 : E'.R = E.R) : Sat E' N rg w := by
  obtain ⟨P, n, Q, W, O, im, D, R⟩ := E
  obtain ⟨P', n', Q', W', O', im', D', R'⟩ := E'
  simp only at h1 h2 h3 h4 h5
  subst h1 h2 h3 h4 h5
  exact ⟨h.len, h.lt, h.cell, h.ext, h.room, h.disj, h.obj, h.odisj, h.imm, h.imd, h.dd, h.dlt, h.loc, h.res, h.chg, h.foot⟩

/-- what a runner is to do -/
def RunOk (P : Program) (run : Runner) : Prop :=
  ∀ T B n rs t s t' s' ws, run T B n rs t s = (t', s', ws) → Keeps ws s.rg s'.rg ∧ ∀ (E : Ctx), E.P = P → E.n = n → E.B = B → TabOk P T → PanicOk E.Q → X E t' s' → X E t s

theorem callC_ok {P : Program} {F : FT} (hF : FTok P F) {run : Runner} (hr : RunOk P run) (n : Nat) (all : Array Oper) : CallerOk P n all (callC F run n all) := by
  intro i s s' ws h
  unfold callC at h
  split at h
  · rename_i fi l d hq
    have main : ∀ {t2 : List It} {s2 : St} {ws2 : List Nat}, run fi.T fi.B fi.n fi.rs [.code fi.body] ⟨argFr l 0, s.rg⟩ = (t2, s2, ws2) → (t2 = [] ∨ ∃ r k, t2 = .res r :: k) → endC n s.fr d fi s2 ws2 = some (s', ws) →
        Keeps ws s.rg s'.rg ∧ ∃ o, all[i]? = some o ∧ ∀ (E : Env) (N : Nums) (a : Act) (w : World), E.P = P → E.n = n → FrOk n N s.fr a → Sat E N s.rg w → Region.wanted o (yielded all a.tmps) = true ∧
    ∀ (K : Act → World → Prop) (Q : Exit → Act → World → Prop), (∀ N' x w', N.le N' → FrOk n N' s'.fr (a.put o.dst x) → Sat E N' s'.rg w' → K (a.put o.dst x) w') → o.wp P a w K Q := by
      intro t2 s2 ws2 hrun ht he
      unfold endC at he
      split at he
      · rename_i r hres
        split at he
        · rename_i f' hput
          simp only [Option.some.injEq, Prod.mk.injEq] at he
          obtain ⟨rfl, rfl⟩ := he
          obtain ⟨hkeep, hsound⟩ := hr _ _ _ _ _ _ _ _ _ hrun
          refine ⟨hkeep, ?_⟩
          unfold callQ at hq
          split at hq
          · cases hq
          · rename_i o ho
            rw [nth_eq] at ho
            refine ⟨o, by simpa using ho, fun E N a w hP hn hf hS => ?_⟩
            cases hsu : sure all s.fr o with
            | false => rw [hsu] at hq; simp at hq
            | true =>
              rw [hsu] at hq
              simp only [cond_true] at hq
              refine ⟨sure_sound hf hsu, fun K Q hK => ?_⟩
              split at hq
              · rename_i c hop
                split at hq
                · rename_i f hcal
                  split at hq
                  · rename_i vf hvf
                    split at hq
                    · rename_i g cs hfn
                      split at hq
                      · rename_i fi' l' hfi hl
                        cases hb : Nat.ble (l' ++ cs).length fi'.n with
                        | false => rw [hb] at hq; simp at hq
                        | true =>
                          rw [hb] at hq
                          simp only [cond_true, Option.some.injEq, Prod.mk.injEq] at hq
                          obtain ⟨rfl, rfl, rfl⟩ := hq
                          obtain ⟨⟨fn, cd, k1, k2, k3, k4, k5, k6⟩, htab, hcall⟩ := hF.look hfi
                          subst hP; subst hn
                          have hargs0 := evL_sound hf _ hl
                          obtain ⟨cl, hcl, hcd⟩ := fnOf_sound (ev_sound hf hvf) hfn
                          have hargs := SV.denL_append _ _ hargs0 hcd
                          have hexec : (execOp a.eval o).run E.P w = .ok (.enter g (c.args.toList.map a.eval ++ cl).toArray) w := by
                            obtain ⟨callee, args, argTypes⟩ := c
                            simp only at hcal hl
                            subst hcal
                            simp only [execOp, hop, resolve, hcl, Deferred.ofValue, Sem.run_bind, Sem.run_pure, Result.andThen, invoke]
                            rw [hcall]
                            congr 2
                            apply Array.ext'
                            simp
                          unfold Oper.wp
                          rw [hexec]
                          show Calls _ _ _ _ _
                          let R : Ending → World → Prop := fun e w' => ∃ v N', e = .returned v ∧ N.le N' ∧ (resV r).den N' = some v ∧ Sat E N' s2.rg w'
                          let E' : Ctx := { E with n := fi'.n, Q := bodyPost E.P fn R, N0 := N, B := fi'.B }
                          have hX : X E' [.code cd] ⟨argFr (l' ++ cs) 0, s.rg⟩ := by
                            rw [← k3]
                            refine hsound E' rfl rfl rfl htab (fun _ _ d _ _ h => by cases d <;> exact h) ?_
                            have hres' : resL fi'.T s2 fn.results.toList = some r := by rw [← k5]; exact hres
                            rcases ht with rfl | ⟨r0, k0, rfl⟩
                            · exact X.fin (E := E') htab (fn := fn) (R := R) rfl hres' (fun N' w' v hN' hS' hv => ⟨v, N', rfl, hN', hv, hS'.env rfl rfl rfl rfl rfl⟩)
                            · intro N' a' w' hN' hf' hS'
                              obtain ⟨v, q1, q2⟩ := results_run (E := E'.toEnv) rfl htab hf' hS' hres'
                              exact sem_ret k0 ⟨hf'.defers, v, q2, v, N', rfl, hN', q1, hS'.env rfl rfl rfl rfl rfl⟩
                          have hlen : (c.args.toList.map a.eval ++ cl).toArray.size ≤ fn.ntmps := by
                            rw [← k4]
                            have h1 := (SV.denL_get _ hargs).1
                            have h2 := Nat.le_of_ble_eq_true hb
                            simp at h1 h2 ⊢; omega
                          have := X.enter (P := E.P) E' k1 k2 (R := R) rfl rfl k4 k6 hlen (ss := l' ++ cs) (rg := s.rg) hargs (hS.env rfl rfl rfl rfl rfl) hX
                          refine Calls.mono this fun e w' ⟨v, N', hv, hN', hd', hS'⟩ => ?_
                          subst hv
                          exact hK N' v w' hN' (putO_sound (hf.mono hN') hd' hput) hS'
                      · cases hq
                    · cases hq
                  · cases hq
                · cases hq
              · cases hq
        · cases he
      · cases he
    split at h
    · rename_i r k s2 ws2 hrun
      exact main hrun (.inr ⟨_, _, rfl⟩) h
    · rename_i s2 ws2 hrun
      exact main hrun (.inl rfl) h
    · cases h
  · cases h

theorem runC_ok {P : Program} {F : FT} (hF : FTok P F) (u : Bool) : ∀ (m : Nat) (T : Tab) (B : SchT) (n : Nat) (rs : List ResultVar) (ws : List Nat) (t : List It) (s : St) (t' : List It) (s' : St) (ws' : List Nat), runC F u m T B n rs ws t s = (t', s', ws') →
    (∃ ws1, ws' = app ws1 ws ∧ Keeps ws1 s.rg s'.rg) ∧ ∀ (E : Ctx), E.P = P → E.n = n → E.B = B → TabOk P T → PanicOk E.Q → X E t' s' → X E t s := by
  have app_assoc : ∀ a b c : List Nat, app a (app b c) = app (app a b) c := by
    intro a b c
    induction a with
    | nil => rfl
    | cons x a ih => simp [app, ih]
  have app_nil : ∀ a : List Nat, app a [] = a := by
    intro a
    induction a with
    | nil => rfl
    | cons x a ih => simp [app, ih]
  intro m
  induction m with
  | zero =>
    intro T B n rs ws t s t' s' ws' h
    simp only [runC, Prod.mk.injEq] at h
    obtain ⟨rfl, rfl, rfl⟩ := h
    exact ⟨⟨[], rfl, Keeps.refl _ _⟩, fun E _ _ _ _ _ h => h⟩
  | succ m ih =>
    intro T B n rs ws t s t' s' ws' h
    have hrun : RunOk P (fun T B n rs t s => runC F u m T B n rs [] t s) := by
      intro T B n rs t s t' s' ws' h
      obtain ⟨⟨ws1, h1, h2⟩, h3⟩ := ih T B n rs [] t s t' s' ws' h
      rw [app_nil] at h1; subst h1
      exact ⟨h2, h3⟩
    have same : (t, s, ws) = (t', s', ws') → (∃ ws1, ws' = app ws1 ws ∧ Keeps ws1 s.rg s'.rg) ∧ ∀ (E : Ctx), E.P = P → E.n = n → E.B = B → TabOk P T → PanicOk E.Q → X E t' s' → X E t s := by
      intro h
      simp only [Prod.mk.injEq] at h
      obtain ⟨rfl, rfl, rfl⟩ := h
      exact ⟨⟨[], rfl, Keeps.refl _ _⟩, fun E _ _ _ _ _ h => h⟩
    have next : ∀ {w1 : List Nat} {t1 : List It} {s1 : St}, runC F u m T B n rs (app w1 ws) t1 s1 = (t', s', ws') → Keeps w1 s.rg s1.rg → (∀ (E : Ctx), E.P = P → E.n = n → E.B = B → TabOk P T → PanicOk E.Q → X E t1 s1 → X E t s) →
        (∃ ws1, ws' = app ws1 ws ∧ Keeps ws1 s.rg s'.rg) ∧ ∀ (E : Ctx), E.P = P → E.n = n → E.B = B → TabOk P T → PanicOk E.Q → X E t' s' → X E t s := by
      intro w1 t1 s1 h hk hx
      obtain ⟨⟨ws1, h1, h2⟩, h3⟩ := ih _ _ _ _ _ _ _ _ _ _ h
      exact ⟨⟨app ws1 w1, by rw [h1, app_assoc], hk.trans h2⟩, fun E e1 e2 e0 e3 e4 e5 => hx E e1 e2 e0 e3 e4 (h3 E e1 e2 e0 e3 e4 e5)⟩
    simp only [runC] at h
    split at h
    · rename_i t1 s1 ha
      exact next (w1 := wrs t s) h (adv_keeps ha) (fun E e1 e2 e0 e3 e4 e5 => by subst e1; subst e2; subst e0; exact adv_sound e3 ha e5)
    · split at h
      · rename_i all i rest k _
        split at h
        · rename_i s1 ws1 hc
          obtain ⟨h1, o, ho, h2⟩ := callC_ok hF hrun n all _ _ _ _ hc
          refine next h h1 (fun E e1 e2 e0 e3 e4 e5 => ?_)
          subst e1; subst e2; subst e0
          intro N a w hN hf hS
          obtain ⟨hw, h3⟩ := h2 E.toEnv N a w rfl rfl hf hS
          show wpOps _ _ _ _ _ _
          simp only [wpOps, ho]
          rw [hw, if_pos rfl]
          exact .inl (h3 _ _ fun N' x w' hN' hf' hS' => e5 N' _ w' (hN.trans hN') hf' hS')
        · exact same h
      · rename_i c k _
        split at h
        · rename_i id ops d _
          split at h
          · split at h
            · rename_i sch hsch
              split at h
              · rename_i s1 ws1 hd
                have hc := callC_ok hF hrun n ops
                refine next h (drawnS_keeps hc hd) (fun E e1 e2 e0 e3 e4 e5 => ?_)
                subst e1; subst e2; subst e0
                intro N a w hN hf hS
                show _ → Code.wp _ _ _ _ _
                intro hreg
                simp only [regsB, hsch] at hreg
                exact drawnS_sound e3 hc hreg hd (e4.sem k) hf hS (fun N' a' w' hN' hf' hS' => e5 N' a' w' (hN.trans hN') hf' hS')
              · exact same h
            · exact same h
          · exact same h
        · rename_i c
          split at h
          · refine next (w1 := []) h (Keeps.refl _ _) (fun E e1 e2 e0 e3 e4 e5 => ?_)
            intro N a w hN hf hS
            intro hreg
            exact wp_unroll (wp_mono (e5 N a w hN hf hS hreg) (fun e a w hq => by cases e <;> first | exact hq hreg | exact hq))
          · exact same h
        · exact same h
      · rename_i c k _
        refine next (w1 := []) h (Keeps.refl _ _) (fun E e1 e2 e0 e3 e4 e5 => ?_)
        intro N a w hN hf hS
        intro hreg
        exact wpIn_again (wp_mono (e5 N a w hN hf hS hreg) (fun e a w hq => by cases e <;> first | exact hq hreg | exact hq))
      · exact same h

/-- the judgement on where a run has come to -/
abbrev XQ (E : Ctx) (p : List It × St × List Nat) : Prop := X E p.1 p.2.1

/-- go on, m steps at most, with calls carried out in place (and loops unrolled, if u) -/
theorem X.goC {P : Program} {fn : Func} {R : Ending → World → Prop} {W : World} {O : Nat → Nat → Prop} {im : Nat → Nat → Option Value} {D : Nat → Nat → Prop} {Rr : World → Prop} {N : Nums} {B : SchT} {F : FT} (hF : FTok P F) (u : Bool) {T : Tab} (hT : TabOk P T) (m n : Nat) (hn : fn.ntmps = n) {t : List It} {s : St} {rs : Array ResultVar} (_hrs : fn.results = rs)
    (h : XQ (mkE P fn R W O im D Rr N B) (runC F u m T B n rs.toList [] t s)) : X (mkE P fn R W O im D Rr N B) t s :=
  (runC_ok hF u m T B n rs.toList [] t s _ _ _ rfl).2 (mkE P fn R W O im D Rr N B) rfl hn rfl hT (fun _ _ d _ _ h => by cases d <;> exact h) h

/-- .. no calls -/
theorem X.go {P : Program} {fn : Func} {R : Ending → World → Prop} {W : World} {O : Nat → Nat → Prop} {im : Nat → Nat → Option Value} {D : Nat → Nat → Prop} {Rr : World → Prop} {N : Nums} {B : SchT} {T : Tab} (hT : TabOk P T) (m n : Nat) (hn : fn.ntmps = n) {t : List It} {s : St} {rs : Array ResultVar} (_hrs : fn.results = rs)
    (h : XQ (mkE P fn R W O im D Rr N B) (runC [] false m T B n rs.toList [] t s)) : X (mkE P fn R W O im D Rr N B) t s := X.goC .nil false hT m n hn _hrs h

end Go.Eng
