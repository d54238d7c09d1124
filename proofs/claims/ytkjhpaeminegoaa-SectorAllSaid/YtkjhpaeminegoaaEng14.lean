/- The symbolic executor, part 14: an operation without its guard; a test's two sides; regions that draw their order, with an oracle for what the executor can't tell. -/
import Derived.Test.YtkjhpaeminegoaaEng13

namespace Go.Eng

section
variable {E : Ctx} {all : Array Oper} {i : Nat} {rest : List Nat} {k : List It} {s : St} {o : Oper}

/-- an operation whose guard is known to hold, alone and without its guard -/
theorem X.bare (ho : nth all.toList i = some o) (hs : sure all s.fr o = true) (h : X E (.ops #[{ o with guard := none }] [0] :: .ops all rest :: k) s) : X E (.ops all (i :: rest) :: k) s := by
  intro N a w hN hfr hS
  show wpOps _ _ _ _ _ _
  have ho' : all[i]? = some o := by rw [nth_eq] at ho; simpa using ho
  simp only [wpOps, ho', sure_sound hfr hs, if_true]
  have h1 := h N a w hN hfr hS
  have h2 : wpOps E.P #[{ o with guard := none }] (sem E.P E.B (.ops all rest :: k) E.Q) [0] a w := h1
  simp only [wpOps, List.getElem?_toArray, List.getElem?_cons_zero, Region.wanted, if_true] at h2
  rcases h2 with h2 | h2
  · exact .inl h2
  · exact .inr h2

/-- what hangs on slot t, once that is told -/
def FV.lit (t : Nat) (b : Bool) : FV → FV
  | .opt j w v => bif Nat.beq j t then (bif w == b then .val v else .val (.tup [])) else .opt j w v
  | e => e

def litF (t : Nat) (b : Bool) : Fr → Fr
  | [] => []
  | (k, v) :: r => (k, bif Nat.beq k t then .val (.bool (.lit b)) else v.lit t b) :: litF t b r

theorem look_litF (t : Nat) (b : Bool) (t' : Nat) : ∀ f : Fr, (t' = t → look (litF t b f) t' = .dead ∨ look (litF t b f) t' = .val (.bool (.lit b))) ∧ (t' ≠ t → look (litF t b f) t' = (look f t').lit t b)
  | [] => ⟨fun _ => .inl rfl, fun _ => rfl⟩
  | (k, v) :: r => by
    obtain ⟨h1, h2⟩ := look_litF t b t' r
    simp only [litF, look]
    by_cases hk : k = t'
    · subst hk
      simp only [Nat.beq_refl, cond_true]
      refine ⟨fun e => ?_, fun e => ?_⟩
      · subst e; simp
      · simp only [beq_ne e, cond_false]
    · simp only [beq_ne hk, cond_false]
      exact ⟨h1, h2⟩

/-- a test's value, one way and the other -/
theorem X.lit (t : Nat) {b : SB} (hl : look s.fr t = .val (.bool b)) (ht : b.T → X E k ⟨litF t true s.fr, s.rg⟩) (hf : b.F → X E k ⟨litF t false s.fr, s.rg⟩) : X E k s := by
  intro N a w hN hfr hS
  have hok := hfr.ok t
  rw [hl] at hok
  obtain ⟨x, h1, h2⟩ := hok
  simp only [SV.den, Option.some.injEq] at h1
  have same : ∀ c : Bool, b.den = c → FrOk E.n N (litF t c s.fr) a := fun c hc => by
    rw [← h1, hc] at h2
    refine ⟨hfr.size, hfr.defers, fun t' => ?_⟩
    obtain ⟨k1, k2⟩ := look_litF t c t' s.fr
    by_cases e : t' = t
    · subst e
      rcases k1 rfl with q | q <;> rw [q]
      · trivial
      · exact ⟨_, rfl, h2⟩
    · rw [k2 e]
      have := hfr.ok t'
      cases hv : look s.fr t' with
      | val v => rw [hv] at this; exact this
      | dead => trivial
      | opt j w v =>
        rw [hv] at this
        simp only [FV.lit]
        cases hj : Nat.beq j t with
        | false => exact this
        | true =>
          have hj := Nat.eq_of_beq_eq_true hj
          subst hj
          obtain ⟨q1, q2⟩ := this
          simp only [cond_true]
          cases hw : (w == c) with
          | true =>
            have hw : w = c := by simpa using hw
            subst hw
            exact q1 h2
          | false =>
            refine ⟨undef, rfl, q2 (fun h => ?_)⟩
            rw [h2] at h
            simp only [Option.some.injEq, Value.bool.injEq] at h
            subst h; simp at hw
  cases hb : b.den with
  | true => exact ht (b.TF.1.1 hb) N a w hN (same _ hb) hS
  | false => exact hf (b.TF.2.1 hb) N a w hN (same _ hb) hS

end

/-- what an operation yields, where the executor can't tell; and what is to be shown for it -/
abbrev Orac := List Rg → Nat → Fr → Option (Fr × Prop)

def OracOk (P : Program) (n : Nat) (all : Array Oper) (N0 : Nums) (oq : Orac) : Prop :=
  ∀ (rg : List Rg) (i : Nat) (f f' : Fr) (p : Prop) (N : Nums) (a : Act) (w0 : World) (o : Oper), all[i]? = some o → oq rg i f = some (f', p) → p → N0.le N → FrOk n N f a → Vis N rg w0 →
    ∃ v, ((Region.wanted o (yielded all a.tmps) = true ∧ ∀ w, Vis N rg w → (execOp a.eval o).run P w = .ok (.value v) w) ∨ (Region.wanted o (yielded all a.tmps) = false ∧ v = undef)) ∧ FrOk n N f' (a.put o.dst v)

/-- a caller, with what is to be shown for what it does -/
abbrev CallerP := Nat → St → Option (St × List Nat × Prop)

def CallerPOk (P : Program) (n : Nat) (all : Array Oper) (Rr : World → Prop) (im : Nat → Nat → Option Value) (call : CallerP) : Prop :=
  ∀ i s s' ws (p : Prop), call i s = some (s', ws, p) → p → Keeps ws s.rg s'.rg ∧ ∃ o, all[i]? = some o ∧ ∀ (E : Env) (N : Nums) (a : Act) (w : World), E.P = P → E.n = n → E.R = Rr → E.im = im → FrOk n N s.fr a → Sat E N s.rg w → Region.wanted o (yielded all a.tmps) = true ∧
    ∀ (K : Act → World → Prop) (Q : Exit → Act → World → Prop), (∀ N' x w', N.le N' → FrOk n N' s'.fr (a.put o.dst x) → Sat E N' s'.rg w' → K (a.put o.dst x) w') → o.wp P a w K Q

def anyO (oq : Orac) (T : Tab) (n : Nat) (all : Array Oper) (K : KW) (rg : List Rg) (call : CallerP) (fin : St → Prop) : Sch → St → Prop
  | [], s => fin s
  | (i, some blk) :: r, s => quietK K i = true ∧
      match oq (maskRg (flatK (memB blk) K) rg 0) i s.fr with
      | some (f, p) => p ∧ anyO oq T n all K rg call fin r ⟨f, s.rg⟩
      | none => False
  | (i, none) :: r, s => match oq s.rg i s.fr with
    | some (f, p) => p ∧ anyO oq T n all K rg call fin r ⟨f, s.rg⟩
    | none => match opE T n all i s with
      | some s' => (match stR s.fr all i with | some k => memN (lookK K i) k | none => true) = true ∧ anyO oq T n all K rg call fin r s'
      | none => match call i s with
        | some (s', ws, p) => p ∧ allN (lookK K i) ws = true ∧ anyO oq T n all K rg call fin r s'
        | none => False

theorem anyO_sound {E : Env} {T : Tab} (hT : TabOk E.P T) {all : Array Oper} (hsel : Region.noSelect all = true) {Q : Exit → Act → World → Prop} (hQ : PanicOk Q) {call : CallerP} (hc : CallerPOk E.P E.n all E.R E.im call) {oq : Orac} {N0 : Nums} (hoq : OracOk E.P E.n all N0 oq) {K : KW} {rg : List Rg} {fin : St → Prop} {Nf : Nums} (wf : World) (hV : Vis Nf rg wf) : ∀ (sch : Sch) (listed : Array Bool) {s : St} {N : Nums} {a : Act} {w : World},
    schOk all sch listed = true → listed.size = all.size → anyO oq T E.n all K rg call fin sch s → Nf.le N → N0.le N → FrOk E.n N s.fr a → Sat E N s.rg w → Agree (wrL K listed) rg s.rg → rg.length ≤ s.rg.length →
    (∀ s' N' a' w', fin s' → N.le N' → FrOk E.n N' s'.fr a' → Sat E N' s'.rg w' → Q .normal a' w') → wpF E.P all Q (fun L => Vis Nf (maskRg (wrL K L) rg 0)) sch.length listed a w := by
  have emp : ∀ {l : List Nat}, l.isEmpty = true → l = [] := by intro l h; cases l <;> simp at h ⊢
  have see : ∀ (L : Array Bool) {N : Nums} {rg' : List Rg} {w : World}, Nf.le N → Agree (wrL K L) rg rg' → Sat E N rg' w → Vis Nf (maskRg (wrL K L) rg 0) w := fun L _ _ _ hN ha hS => vis_of_agree (hV.mask _) hN ha hS
  intro sch
  induction sch with
  | nil =>
    intro listed s N a w hs hn hg hN hN0 hf hS ha hl hk
    exact wpF.done (emp hs) (hk s N a w hg (Nums.le.refl N) hf hS)
  | cons p r ih =>
    obtain ⟨i, q⟩ := p
    intro listed s N a w hs hn hg hN hN0 hf hS ha hl hk
    have hS0 := see listed hN ha hS
    cases q with
    | some blk =>
      simp only [schOk, Bool.and_eq_true] at hs
      obtain ⟨⟨⟨⟨hr, hfree⟩, hclosed⟩, hwithin⟩, hs⟩ := hs
      simp only [anyO] at hg
      obtain ⟨hqk, hg⟩ := hg
      have hqk := quietK_spec hqk
      have hrm : i ∈ Region.ready .any all listed := by simpa using hr
      have hi0 : listed.getD i false = false := by
        have h1 := (mem_ready.1 hrm).1
        rcases Nat.lt_or_ge i listed.size with h' | h'
        · simp [h'] at h1 ⊢; exact h1
        · rw [Array.getD_eq_getD_getElem?, Array.getElem?_eq_none h']; rfl
      have same : ∀ (L : Array Bool) (r : Nat), memN (wrL K (L.setIfInBounds i true)) r = true ↔ memN (wrL K L) r = true := fun L r => by
        simp only [wrL, memN_flat]
        constructor
        · rintro ⟨p, h1, h2, h3⟩
          exact ⟨p, h1, by rwa [getD_set_ne false (fun e => hqk p h1 e.symm)] at h2, h3⟩
        · rintro ⟨p, h1, h2, h3⟩
          exact ⟨p, h1, by rwa [getD_set_ne false (fun e => hqk p h1 e.symm)], h3⟩
      split at hg
      · rename_i f hq
        obtain ⟨_, o, ho, _⟩ := mem_ready.1 hrm
        obtain ⟨hp, hg⟩ := hg
        -- whoever may have come up ahead of it is of blk
        have wide : ∀ {L' : Array Bool} {w' : World}, Up all i listed L' → Vis Nf (maskRg (wrL K L') rg 0) w' → Vis Nf (maskRg (flatK (memB blk) K) rg 0) w' := fun hup hv =>
          hv.more fun r hr => by
            obtain ⟨p, h1, h2, h3⟩ := memN_flat.1 hr
            exact memN_flat.2 ⟨p, h1, (hup.within hclosed hn hi0 hwithin).2.2 _ h2, h3⟩
        obtain ⟨v, hv, hfr⟩ := hoq _ i _ _ _ _ _ _ _ ho hq hp hN0 hf ((wide .here hS0).mono hN)
        refine wpF.take ho hsel hfree hr (fun c a w h => hQ c a o.dst v w h) (fun L w => ⟨fun h => h.more fun r hr => (same L r).1 hr, fun h => h.more fun r hr => (same L r).2 hr⟩) ?_ hS0
          (ih _ hs (by simpa using hn) hg hN hN0 hfr hS (fun r g hg hm => ha r g hg (by
            cases hx : memN (wrL K listed) r with
            | true => rw [(same listed r).2 hx] at hm; cases hm
            | false => rfl)) hl hk)
        rcases hv with ⟨hw, hrun⟩ | ⟨hw, rfl⟩
        · exact .inl ⟨hw, fun w ⟨L', hup, hw⟩ => hrun w ((wide hup hw).mono hN)⟩
        · exact .inr ⟨hw, rfl⟩
      · exact hg.elim
    | none =>
      simp only [schOk, Bool.and_eq_true] at hs
      obtain ⟨hr, hs⟩ := hs
      have hr := only_spec hr
      have hrm : i ∈ Region.ready .any all listed := by rw [hr]; simp
      have hlt : i < listed.size := by
        obtain ⟨_, o, ho, _⟩ := mem_ready.1 hrm
        rw [hn]; exact (Array.getElem?_eq_some_iff.1 ho).1
      have hset : (listed.setIfInBounds i true).getD i false = true := by simp [hlt]
      have grow : ∀ r, memN (wrL K listed) r = true → memN (wrL K (listed.setIfInBounds i true)) r = true := fun r h => by
        obtain ⟨p, h1, h2, h3⟩ := memN_flat.1 h
        refine memN_flat.2 ⟨p, h1, ?_, h3⟩
        by_cases e : i = p.1
        · rw [← e]; exact hset
        · rw [getD_set_ne false e]; exact h2
      have own : ∀ k, memN (lookK K i) k = true → memN (wrL K (listed.setIfInBounds i true)) k = true := fun k hk => by
        obtain ⟨p, h1, h2, h3⟩ := lookK_mem hk
        exact memN_flat.2 ⟨p, h1, by rw [h2]; exact hset, h3⟩
      have ha1 : Agree (wrL K (listed.setIfInBounds i true)) rg s.rg := ha.mono fun r hr => by
        cases hx : memN (wrL K listed) r with
        | true => rw [grow r hx] at hr; cases hr
        | false => rfl
      simp only [anyO] at hg
      split at hg
      · rename_i f hq
        obtain ⟨_, o, ho, _⟩ := mem_ready.1 hrm
        obtain ⟨hp, hg⟩ := hg
        obtain ⟨v, hv, hfr⟩ := hoq _ i _ _ _ _ _ _ _ ho hq hp hN0 hf hS.vis
        refine wpF.all hr (by simp) fun j hj => ?_
        simp only [List.mem_singleton] at hj; subst hj
        unfold wpOp
        simp only [ho]
        have hnext := ih _ hs (by simpa using hn) hg hN hN0 hfr hS ha1 hl hk
        rcases hv with ⟨hw, hrun⟩ | ⟨hw, rfl⟩
        · rw [hw, if_pos rfl]
          exact .inl (wp_of_yields (.inl (hrun w hS.vis)) ⟨see _ hN ha1 hS, hnext⟩)
        · rw [hw]
          exact ⟨see _ hN ha1 hS, hnext⟩
      · split at hg
        · rename_i s1 he
          obtain ⟨hm, hg2⟩ := hg
          have hoi : ∃ o, all[i]? = some o := by
            cases ho : all[i]? with
            | some o => exact ⟨o, rfl⟩
            | none => unfold opE at he; rw [nth_eq] at he; simp [ho] at he
          obtain ⟨o, ho⟩ := hoi
          obtain ⟨hw, N', x, w', h1, h2, h3, h4⟩ := opE_sound hT ho he hf hS
          obtain ⟨ha', hl'⟩ := stepE_agree ha1 hl (by cases hst : stR s.fr all i with | some k => rw [hst] at hm; exact own k hm | none => rfl) he
          refine wpF.all hr (by simp) fun j hj => ?_
          simp only [List.mem_singleton] at hj; subst hj
          unfold wpOp
          simp only [ho, hw, if_true]
          exact .inl (wp_of_yields h2 ⟨see _ (hN.trans h1) ha' h4, ih _ hs (by simpa using hn) hg2 (hN.trans h1) (hN0.trans h1) h3 h4 ha' hl' (fun s2 N2 a2 w2 hs2 hN2 => hk s2 N2 a2 w2 hs2 (h1.trans hN2))⟩)
        · split at hg
          · rename_i s1 ws p he
            obtain ⟨hp, hm, hg2⟩ := hg
            obtain ⟨h1, o, ho, h2⟩ := hc _ _ _ _ _ he hp
            obtain ⟨hw, h3⟩ := h2 E N a w rfl rfl rfl rfl hf hS
            refine wpF.all hr (by simp) fun j hj => ?_
            simp only [List.mem_singleton] at hj; subst hj
            unfold wpOp
            simp only [ho, hw, if_true]
            refine .inl (h3 _ _ fun N' x w' hN' hf' hS' => ?_)
            have ha' : Agree (wrL K (listed.setIfInBounds j true)) rg s1.rg := fun r g hg hr => h1.agree r g (ha1 r g hg hr) (allN_spec hm r (by
              cases hx : memN (lookK K j) r with
              | true => rw [own r hx] at hr; cases hr
              | false => rfl))
            exact ⟨see _ (hN.trans hN') ha' hS', ih _ hs (by simpa using hn) hg2 (hN.trans hN') (hN0.trans hN') hf' hS' ha' (Nat.le_trans hl h1.len) (fun s2 N2 a2 w2 hs2 hN2 => hk s2 N2 a2 w2 hs2 (hN'.trans hN2))⟩
          · exact hg.elim

def dryO (oq : Orac) (T : Tab) (n : Nat) (all : Array Oper) (call : CallerP) : Sch → St → KW
  | [], _ => []
  | (i, _) :: r, s =>
    match oq s.rg i s.fr with
    | some (f, _) => dryO oq T n all call r ⟨f, s.rg⟩
    | none => match opE T n all i s with
      | some s' => match stR s.fr all i with
        | some k => (i, [k]) :: dryO oq T n all call r s'
        | none => dryO oq T n all call r s'
      | none => match call i s with
        | some (s', ws, _) => (i, ws) :: dryO oq T n all call r s'
        | none => []

def drawnO (oq : Orac) (T : Tab) (n : Nat) (all : Array Oper) (call : CallerP) (fin : St → Prop) (sch : Sch) (s : St) : Prop :=
  anyO oq T n all (dryO oq T n all call sch s) s.rg call fin sch s

theorem drawnO_sound {E : Env} {T : Tab} (hT : TabOk E.P T) {id : Nat} {all : Array Oper} {call : CallerP} (hc : CallerPOk E.P E.n all E.R E.im call) {oq : Orac} {N0 : Nums} (hoq : OracOk E.P E.n all N0 oq) {sch : Sch} (hok : anyOk all sch = true) {fin : St → Prop} {s : St} (hd : drawnO oq T E.n all call fin sch s) {Q : Exit → Act → World → Prop} (hQ : PanicOk Q) {N : Nums} {a : Act} {w : World} (hN0 : N0.le N) (hf : FrOk E.n N s.fr a) (hS : Sat E N s.rg w)
    (hk : ∀ s' N' a' w', fin s' → N.le N' → FrOk E.n N' s'.fr a' → Sat E N' s'.rg w' → Q .normal a' w') : (Code.region id all true).wp E.P Q a w := by
  have hS' : Sat E N s.rg { w with drawn := w.drawn + 1 } := hS.drew
  simp only [anyOk, Bool.and_eq_true] at hok
  obtain ⟨⟨hn, hlen⟩, hsch⟩ := hok
  have hlen := Nat.eq_of_beq_eq_true hlen
  have := anyO_sound hT hn hQ hc hoq _ hS'.vis sch _ hsch (by simp) hd (Nums.le.refl N) hN0 hf hS' (fun r g hg _ => hg) (Nat.le_refl _) hk
  rw [hlen] at this
  exact wp_region_any hT.mixed this.any

/-- the oracle's word, ahead of what the executor tells -/
def oracQ (ora : Nat → Fr → Option (Fr × Prop)) (T : Tab) (n : Nat) (all : Array Oper) : Orac := fun rg i f =>
  match ora i f with
  | some f' => some f'
  | none => match opQ T n all rg i f with
    | some f' => some (f', True)
    | none => none

theorem oracQ_ok {P : Program} {T : Tab} (hT : TabOk P T) {n : Nat} {all : Array Oper} {N0 : Nums} {ora : Nat → Fr → Option (Fr × Prop)} (h : OracOk P n all N0 (fun _ => ora)) : OracOk P n all N0 (oracQ ora T n all) := by
  intro rg i f f' p N a w0 o ho hq hp hN hf hv
  unfold oracQ at hq
  split at hq
  · rename_i q hq'
    simp only [Option.some.injEq] at hq; subst hq
    exact h rg i f _ p N a w0 o ho hq' hp hN hf hv
  · split at hq
    · simp only [Option.some.injEq, Prod.mk.injEq] at hq
      obtain ⟨rfl, rfl⟩ := hq
      exact opQ_sound hT ho ‹_› hf hv
    · cases hq

/-- a region that draws its order, with an oracle, and a caller of one's own -/
theorem X.drawnO {P : Program} {fn : Func} {R : Ending → World → Prop} {W : World} {O : Nat → Nat → Prop} {im : Nat → Nat → Option Value} {D : Nat → Nat → Prop} {Rr : World → Prop} {N : Nums} {B : SchT} {T : Tab} (hT : TabOk P T) {id : Nat} {ops : Array Oper} {k : List It} {s : St} (call : CallerP) (ora : Nat → Fr → Option (Fr × Prop)) {sch : Sch}
    (hl : lookS B id = some sch) (hc : CallerPOk P fn.ntmps ops Rr im call) (ho : OracOk P fn.ntmps ops N (fun _ => ora)) (n : Nat) (hn : fn.ntmps = n) (h : Eng.drawnO (oracQ ora T n ops) T n ops call (fun s' => X (mkE P fn R W O im D Rr N B) k s') sch s) : X (mkE P fn R W O im D Rr N B) (.code (.region id ops true) :: k) s := by
  subst hn
  intro N' a w hN hf hS
  show _ → Code.wp _ _ _ _ _
  intro hreg
  simp only [regsB, hl] at hreg
  exact drawnO_sound (E := (mkE P fn R W O im D Rr N B).toEnv) hT hc (oracQ_ok hT ho) hreg h (PanicOk.sem (fun _ _ d _ _ h => by cases d <;> exact h) k) hN hf hS (fun s2 N2 a2 w2 h hN2 hf2 hS2 => h N2 a2 w2 (hN.trans hN2) hf2 hS2)

/-- no caller -/
def noCall : CallerP := fun _ _ => none
theorem noCall_ok {P : Program} {n : Nat} {all : Array Oper} {Rr : World → Prop} {im : Nat → Nat → Option Value} : CallerPOk P n all Rr im noCall := fun _ _ _ _ _ h => by cases h

/-! ### an oracle for an element's address, in a slice of which it is not told whether it is nil -/
/-- operation j is an element's address: what slice, what index, the slot, what it yields -/
structure IdxO where
  (j x ix d : Nat) (r : SV)

def idxO (n : Nat) (p : Option Addr) (m c z : Nat) : List IdxO → Nat → Fr → Option (Fr × Prop)
  | [], _, _ => none
  | q :: l, i, f => bif Nat.beq i q.j then
      match putO n f (some q.d) (.val q.r) with
      | some f' => some (f', ev f (.tmp q.x) = some (.slv p m c) ∧ ∃ kd e, ev f (.tmp q.ix) = some (.int kd e) ∧ e.den = (z : Int))
      | none => none
    else idxO n p m c z l i f

def IdxO.ok (ops : Array Oper) (t : TypeId) (q : IdxO) : Bool := match nth ops.toList q.j with
  | some o => (match o.guard with | none => true | some _ => false) && (match o.op with | .indexAddr t' (.tmp x) (.tmp ix) => Nat.beq t' t && (Nat.beq x q.x && Nat.beq ix q.ix) | _ => false) && decide (o.dst = some q.d)
  | none => false

theorem idxO_ok {P : Program} {n : Nat} {ops : Array Oper} {N0 : Nums} {t e : TypeId} {p : Option Addr} {b y m c z sz : Nat} (hu : P.underlying t = some (.slice e)) (hq : ∀ w, (sizeOf e).run P w = .ok sz w) (hp : p = some ⟨b, y, none⟩) (hlt : z < m) :
    ∀ (l : List IdxO), l.all (IdxO.ok ops t) = true → (∀ q ∈ l, ∀ N, N0.le N → q.r.den N = some (.pointer (some ⟨b, y + z * sz, none⟩))) → OracOk P n ops N0 (fun _ => idxO n p m c z l)
  | [], _, _ => fun _ _ _ _ _ _ _ _ _ _ h => by cases h
  | q :: l, hl, hr => by
    intro rg i f f' pr N a w0 o ho hf hpr hN hfr hv
    simp only [List.all_cons, Bool.and_eq_true] at hl
    simp only [idxO] at hf
    cases hi : Nat.beq i q.j with
    | false =>
      rw [hi] at hf
      exact idxO_ok hu hq hp hlt l hl.2 (fun q hq => hr q (by simp [hq])) rg i f f' pr N a w0 o ho hf hpr hN hfr hv
    | true =>
      rw [hi] at hf
      have hi := Nat.eq_of_beq_eq_true hi
      subst hi
      simp only [cond_true] at hf
      split at hf
      · rename_i f1 hput
        simp only [Option.some.injEq, Prod.mk.injEq] at hf
        obtain ⟨rfl, rfl⟩ := hf
        obtain ⟨hx, kd, ee, hix, hez⟩ := hpr
        have hok := hl.1
        unfold IdxO.ok at hok
        rw [nth_eq, Array.getElem?_toList, ho] at hok
        simp only [Bool.and_eq_true] at hok
        obtain ⟨⟨hg, hop⟩, hd⟩ := hok
        have hd := of_decide_eq_true hd
        have hg : o.guard = none := by cases h : o.guard with | none => rfl | some _ => rw [h] at hg; simp at hg
        obtain ⟨t', ht⟩ : ∃ t', o.op = .indexAddr t' (.tmp q.x) (.tmp q.ix) ∧ t' = t := by
          split at hop
          · rename_i t' x ix h
            simp only [Bool.and_eq_true] at hop
            have e1 := Nat.eq_of_beq_eq_true hop.2.1
            have e2 := Nat.eq_of_beq_eq_true hop.2.2
            subst e1; subst e2
            exact ⟨_, h, Nat.eq_of_beq_eq_true hop.1⟩
          · cases hop
        obtain ⟨hop', rfl⟩ := ht
        have h1 := ev_sound hfr hx
        have h2 := ev_sound hfr hix
        simp only [SV.den, Option.some.injEq] at h1 h2
        have hval := hr q (by simp) N hN
        refine ⟨_, .inl ⟨by simp [Region.wanted, hg], fun w _ => ?_⟩, by rw [hd]; exact putO_sound hfr hval hput⟩
        simp only [execOp, hop', ← h1, ← h2, hp]
        simp [Instr.indexAt, asIntOf, run_underlying hu, Result.andThen, hez, hlt, hq, addr_add]
      · cases hf

end Go.Eng
