/- The symbolic executor, part 21: regions that draw their order, where the caller of one's own is asked ahead of the executor. -/
import Derived.Test.YtkjhpaeminegoaaEng20

namespace Go.Eng

def anyC (oq : Orac) (T : Tab) (n : Nat) (all : Array Oper) (K : KW) (rg : List Rg) (call : CallerP) (fin : St → Prop) : Sch → St → Prop
  | [], s => fin s
  | (i, some blk) :: r, s => quietK K i = true ∧
      match oq (maskRg (flatK (memB blk) K) rg 0) i s.fr with
      | some (f, p) => p ∧ anyC oq T n all K rg call fin r ⟨f, s.rg⟩
      | none => False
  | (i, none) :: r, s => match oq s.rg i s.fr with
    | some (f, p) => p ∧ anyC oq T n all K rg call fin r ⟨f, s.rg⟩
    | none => match call i s with
      | some (s', ws, p) => p ∧ allN (lookK K i) ws = true ∧ anyC oq T n all K rg call fin r s'
      | none => match opE T n all i s with
        | some s' => (match stR s.fr all i with | some k => memN (lookK K i) k | none => true) = true ∧ anyC oq T n all K rg call fin r s'
        | none => False

theorem anyC_sound {E : Env} {T : Tab} (hT : TabOk E.P T) {all : Array Oper} (hsel : Region.noSelect all = true) {Q : Exit → Act → World → Prop} (hQ : PanicOk Q) {call : CallerP} (hc : CallerPOk E.P E.n all E.R E.im call) {oq : Orac} {N0 : Nums} (hoq : OracOk E.P E.n all N0 oq) {K : KW} {rg : List Rg} {fin : St → Prop} {Nf : Nums} (wf : World) (hV : Vis Nf rg wf) : ∀ (sch : Sch) (listed : Array Bool) {s : St} {N : Nums} {a : Act} {w : World},
    schOk all sch listed = true → listed.size = all.size → anyC oq T E.n all K rg call fin sch s → Nf.le N → N0.le N → FrOk E.n N s.fr a → Sat E N s.rg w → Agree (wrL K listed) rg s.rg → rg.length ≤ s.rg.length →
    (∀ s' N' a' w', fin s' → N.le N' → FrOk E.n N' s'.fr a' → Sat E N' s'.rg w' → Q .normal a' w') → wpF E.P all Q (fun L => Vis Nf (maskRg (wrL K L) rg 0)) sch.length listed a w := by
  have emp : ∀ {l : List Nat}, l.isEmpty = true → l = [] := by intro l h; cases l <;> simp at h ⊢
  have see : ∀ (L : Array Bool) {N : Nums} {rg' : List Rg} {w : World}, Nf.le N → Agree (wrL K L) rg rg' → Sat E N rg' w → Vis Nf (maskRg (wrL K L) rg 0) w := fun L _ _ _ hN ha hS => vis_of_agree (hV.mask _) hN ha hS
  intro sch
  induction sch with
  | nil =>
    intro listed s N a w hs hn hg hN hN0 hf hS ha hl hk
    exact wpF.done (emp hs) (hk s N a w hg (Nums.le.refl N) hf hS)
  | cons p r ih =>
    obtain ⟨i, q⟩ := p
    intro listed s N a w hs hn hg hN hN0 hf hS ha hl hk
    have hS0 := see listed hN ha hS
    cases q with
    | some blk =>
      simp only [schOk, Bool.and_eq_true] at hs
      obtain ⟨⟨⟨⟨hr, hfree⟩, hclosed⟩, hwithin⟩, hs⟩ := hs
      simp only [anyC] at hg
      obtain ⟨hqk, hg⟩ := hg
      have hqk := quietK_spec hqk
      have hrm : i ∈ Region.ready .any all listed := by simpa using hr
      have hi0 : listed.getD i false = false := by
        have h1 := (mem_ready.1 hrm).1
        rcases Nat.lt_or_ge i listed.size with h' | h'
        · simp [h'] at h1 ⊢; exact h1
        · rw [Array.getD_eq_getD_getElem?, Array.getElem?_eq_none h']; rfl
      have same : ∀ (L : Array Bool) (r : Nat), memN (wrL K (L.setIfInBounds i true)) r = true ↔ memN (wrL K L) r = true := fun L r => by
        simp only [wrL, memN_flat]
        constructor
        · rintro ⟨p, h1, h2, h3⟩
          exact ⟨p, h1, by rwa [getD_set_ne false (fun e => hqk p h1 e.symm)] at h2, h3⟩
        · rintro ⟨p, h1, h2, h3⟩
          exact ⟨p, h1, by rwa [getD_set_ne false (fun e => hqk p h1 e.symm)], h3⟩
      split at hg
      · rename_i f hq
        obtain ⟨_, o, ho, _⟩ := mem_ready.1 hrm
        obtain ⟨hp, hg⟩ := hg
        -- whoever may have come up ahead of it is of blk
        have wide : ∀ {L' : Array Bool} {w' : World}, Up all i listed L' → Vis Nf (maskRg (wrL K L') rg 0) w' → Vis Nf (maskRg (flatK (memB blk) K) rg 0) w' := fun hup hv =>
          hv.more fun r hr => by
            obtain ⟨p, h1, h2, h3⟩ := memN_flat.1 hr
            exact memN_flat.2 ⟨p, h1, (hup.within hclosed hn hi0 hwithin).2.2 _ h2, h3⟩
        obtain ⟨v, hv, hfr⟩ := hoq _ i _ _ _ _ _ _ _ ho hq hp hN0 hf ((wide .here hS0).mono hN)
        refine wpF.take ho hsel hfree hr (fun c a w h => hQ c a o.dst v w h) (fun L w => ⟨fun h => h.more fun r hr => (same L r).1 hr, fun h => h.more fun r hr => (same L r).2 hr⟩) ?_ hS0
          (ih _ hs (by simpa using hn) hg hN hN0 hfr hS (fun r g hg hm => ha r g hg (by
            cases hx : memN (wrL K listed) r with
            | true => rw [(same listed r).2 hx] at hm; cases hm
            | false => rfl)) hl hk)
        rcases hv with ⟨hw, hrun⟩ | ⟨hw, rfl⟩
        · exact .inl ⟨hw, fun w ⟨L', hup, hw⟩ => hrun w ((wide hup hw).mono hN)⟩
        · exact .inr ⟨hw, rfl⟩
      · exact hg.elim
    | none =>
      simp only [schOk, Bool.and_eq_true] at hs
      obtain ⟨hr, hs⟩ := hs
      have hr := only_spec hr
      have hrm : i ∈ Region.ready .any all listed := by rw [hr]; simp
      have hlt : i < listed.size := by
        obtain ⟨_, o, ho, _⟩ := mem_ready.1 hrm
        rw [hn]; exact (Array.getElem?_eq_some_iff.1 ho).1
      have hset : (listed.setIfInBounds i true).getD i false = true := by simp [hlt]
      have grow : ∀ r, memN (wrL K listed) r = true → memN (wrL K (listed.setIfInBounds i true)) r = true := fun r h => by
        obtain ⟨p, h1, h2, h3⟩ := memN_flat.1 h
        refine memN_flat.2 ⟨p, h1, ?_, h3⟩
        by_cases e : i = p.1
        · rw [← e]; exact hset
        · rw [getD_set_ne false e]; exact h2
      have own : ∀ k, memN (lookK K i) k = true → memN (wrL K (listed.setIfInBounds i true)) k = true := fun k hk => by
        obtain ⟨p, h1, h2, h3⟩ := lookK_mem hk
        exact memN_flat.2 ⟨p, h1, by rw [h2]; exact hset, h3⟩
      have ha1 : Agree (wrL K (listed.setIfInBounds i true)) rg s.rg := ha.mono fun r hr => by
        cases hx : memN (wrL K listed) r with
        | true => rw [grow r hx] at hr; cases hr
        | false => rfl
      simp only [anyC] at hg
      split at hg
      · rename_i f hq
        obtain ⟨_, o, ho, _⟩ := mem_ready.1 hrm
        obtain ⟨hp, hg⟩ := hg
        obtain ⟨v, hv, hfr⟩ := hoq _ i _ _ _ _ _ _ _ ho hq hp hN0 hf hS.vis
        refine wpF.all hr (by simp) fun j hj => ?_
        simp only [List.mem_singleton] at hj; subst hj
        unfold wpOp
        simp only [ho]
        have hnext := ih _ hs (by simpa using hn) hg hN hN0 hfr hS ha1 hl hk
        rcases hv with ⟨hw, hrun⟩ | ⟨hw, rfl⟩
        · rw [hw, if_pos rfl]
          exact .inl (wp_of_yields (.inl (hrun w hS.vis)) ⟨see _ hN ha1 hS, hnext⟩)
        · rw [hw]
          exact ⟨see _ hN ha1 hS, hnext⟩
      · split at hg
        · rename_i s1 ws p he
          obtain ⟨hp, hm, hg2⟩ := hg
          obtain ⟨h1, o, ho, h2⟩ := hc _ _ _ _ _ he hp
          obtain ⟨hw, h3⟩ := h2 E N a w rfl rfl rfl rfl hf hS
          refine wpF.all hr (by simp) fun j hj => ?_
          simp only [List.mem_singleton] at hj; subst hj
          unfold wpOp
          simp only [ho, hw, if_true]
          refine .inl (h3 _ _ fun N' x w' hN' hf' hS' => ?_)
          have ha' : Agree (wrL K (listed.setIfInBounds j true)) rg s1.rg := fun r g hg hr => h1.agree r g (ha1 r g hg hr) (allN_spec hm r (by
            cases hx : memN (lookK K j) r with
            | true => rw [own r hx] at hr; cases hr
            | false => rfl))
          exact ⟨see _ (hN.trans hN') ha' hS', ih _ hs (by simpa using hn) hg2 (hN.trans hN') (hN0.trans hN') hf' hS' ha' (Nat.le_trans hl h1.len) (fun s2 N2 a2 w2 hs2 hN2 => hk s2 N2 a2 w2 hs2 (hN'.trans hN2))⟩
        · split at hg
          · rename_i s1 he
            obtain ⟨hm, hg2⟩ := hg
            have hoi : ∃ o, all[i]? = some o := by
              cases ho : all[i]? with
              | some o => exact ⟨o, rfl⟩
              | none => unfold opE at he; rw [nth_eq] at he; simp [ho] at he
            obtain ⟨o, ho⟩ := hoi
            obtain ⟨hw, N', x, w', h1, h2, h3, h4⟩ := opE_sound hT ho he hf hS
            obtain ⟨ha', hl'⟩ := stepE_agree ha1 hl (by cases hst : stR s.fr all i with | some k => rw [hst] at hm; exact own k hm | none => rfl) he
            refine wpF.all hr (by simp) fun j hj => ?_
            simp only [List.mem_singleton] at hj; subst hj
            unfold wpOp
            simp only [ho, hw, if_true]
            exact .inl (wp_of_yields h2 ⟨see _ (hN.trans h1) ha' h4, ih _ hs (by simpa using hn) hg2 (hN.trans h1) (hN0.trans h1) h3 h4 ha' hl' (fun s2 N2 a2 w2 hs2 hN2 => hk s2 N2 a2 w2 hs2 (h1.trans hN2))⟩)
          · exact hg.elim

def dryC (oq : Orac) (T : Tab) (n : Nat) (all : Array Oper) (call : CallerP) : Sch → St → KW
  | [], _ => []
  | (i, _) :: r, s =>
    match oq s.rg i s.fr with
    | some (f, _) => dryC oq T n all call r ⟨f, s.rg⟩
    | none => match call i s with
      | some (s', ws, _) => (i, ws) :: dryC oq T n all call r s'
      | none => match opE T n all i s with
        | some s' => match stR s.fr all i with
          | some k => (i, [k]) :: dryC oq T n all call r s'
          | none => dryC oq T n all call r s'
        | none => []

def drawnC (oq : Orac) (T : Tab) (n : Nat) (all : Array Oper) (call : CallerP) (fin : St → Prop) (sch : Sch) (s : St) : Prop :=
  anyC oq T n all (dryC oq T n all call sch s) s.rg call fin sch s

theorem drawnC_sound {E : Env} {T : Tab} (hT : TabOk E.P T) {id : Nat} {all : Array Oper} {call : CallerP} (hc : CallerPOk E.P E.n all E.R E.im call) {oq : Orac} {N0 : Nums} (hoq : OracOk E.P E.n all N0 oq) {sch : Sch} (hok : anyOk all sch = true) {fin : St → Prop} {s : St} (hd : drawnC oq T E.n all call fin sch s) {Q : Exit → Act → World → Prop} (hQ : PanicOk Q) {N : Nums} {a : Act} {w : World} (hN0 : N0.le N) (hf : FrOk E.n N s.fr a) (hS : Sat E N s.rg w)
    (hk : ∀ s' N' a' w', fin s' → N.le N' → FrOk E.n N' s'.fr a' → Sat E N' s'.rg w' → Q .normal a' w') : (Code.region id all true).wp E.P Q a w := by
  have hS' : Sat E N s.rg { w with drawn := w.drawn + 1 } := hS.drew
  simp only [anyOk, Bool.and_eq_true] at hok
  obtain ⟨⟨hn, hlen⟩, hsch⟩ := hok
  have hlen := Nat.eq_of_beq_eq_true hlen
  have := anyC_sound hT hn hQ hc hoq _ hS'.vis sch _ hsch (by simp) hd (Nums.le.refl N) hN0 hf hS' (fun r g hg _ => hg) (Nat.le_refl _) hk
  rw [hlen] at this
  exact wp_region_any hT.mixed this.any

/-- a region that draws its order, with an oracle, and a caller of one's own -/
theorem X.drawnC {P : Program} {fn : Func} {R : Ending → World → Prop} {W : World} {O : Nat → Nat → Prop} {im : Nat → Nat → Option Value} {D : Nat → Nat → Prop} {Rr : World → Prop} {N : Nums} {B : SchT} {T : Tab} (hT : TabOk P T) {id : Nat} {ops : Array Oper} {k : List It} {s : St} (call : CallerP) (ora : Nat → Fr → Option (Fr × Prop)) {sch : Sch}
    (hl : lookS B id = some sch) (hc : CallerPOk P fn.ntmps ops Rr im call) (ho : OracOk P fn.ntmps ops N (fun _ => ora)) (n : Nat) (hn : fn.ntmps = n) (h : Eng.drawnC (oracQ ora T n ops) T n ops call (fun s' => X (mkE P fn R W O im D Rr N B) k s') sch s) : X (mkE P fn R W O im D Rr N B) (.code (.region id ops true) :: k) s := by
  subst hn
  intro N' a w hN hf hS
  show _ → Code.wp _ _ _ _ _
  intro hreg
  simp only [regsB, hl] at hreg
  exact drawnC_sound (E := (mkE P fn R W O im D Rr N B).toEnv) hT hc (oracQ_ok hT ho) hreg h (PanicOk.sem (fun _ _ d _ _ h => by cases d <;> exact h) k) hN hf hS (fun s2 N2 a2 w2 h hN2 hf2 hS2 => h N2 a2 w2 (hN.trans hN2) hf2 hS2)

/-- one operation by an equation, the equation under a name -/
def eqCallP (all : Array Oper) (j : Nat) (g : St → Option St) (pr : St → St → Prop) : CallerP := fun i s => bif Nat.beq i j then
    match g s with
    | some s1 => some (s1, (match stR s.fr all i with | some r => [r] | none => []), pr s s1)
    | none => none
  else none

theorem eqCallP_ok {P : Program} {T : Tab} (hT : TabOk P T) {n : Nat} {all : Array Oper} {j : Nat} {g : St → Option St} {pr : St → St → Prop} (hpr : ∀ s s1, pr s s1 → OpEq T n all j s s1) {Rr : World → Prop} {im : Nat → Nat → Option Value} : CallerPOk P n all Rr im (eqCallP all j g pr) := by
  intro i s s' ws p hc hp
  refine eqCall_ok hT (g := g) (j := j) i s s' ws (OpEq T n all i s s') ?_ ?_
  · unfold eqCallP at hc
    unfold eqCall
    obtain ⟨hi, hc2⟩ := bif_none hc
    rw [hi]
    simp only [cond_true]
    split at hc2
    · rename_i s1 hg
      simp only [Option.some.injEq, Prod.mk.injEq] at hc2
      obtain ⟨rfl, rfl, rfl⟩ := hc2
      simp only [hg]
      rfl
    · cases hc2
  · unfold eqCallP at hc
    obtain ⟨hi, hc2⟩ := bif_none hc
    have hi := Nat.eq_of_beq_eq_true hi
    split at hc2
    · simp only [Option.some.injEq, Prod.mk.injEq] at hc2
      obtain ⟨rfl, rfl, rfl⟩ := hc2
      rw [hi]
      exact hpr _ _ hp
    · cases hc2

/-- a region that draws its order, one operation by an equation -/
theorem X.drawnE {P : Program} {fn : Func} {R : Ending → World → Prop} {W : World} {O : Nat → Nat → Prop} {im : Nat → Nat → Option Value} {D : Nat → Nat → Prop} {Rr : World → Prop} {N : Nums} {B : SchT} {T : Tab} (hT : TabOk P T) {id : Nat} {ops : Array Oper} {k : List It} {s : St} (j : Nat) (g : St → Option St) (ora : Nat → Fr → Option (Fr × Prop)) {sch : Sch}
    (hl : lookS B id = some sch) (ho : OracOk P fn.ntmps ops N (fun _ => ora)) (n : Nat) (hn : fn.ntmps = n) (h : ∀ pr : St → St → Prop, (∀ s s1, OpEq T n ops j s s1 → pr s s1) → Eng.drawnC (oracQ ora T n ops) T n ops (eqCallP ops j g pr) (fun s' => X (mkE P fn R W O im D Rr N B) k s') sch s) : X (mkE P fn R W O im D Rr N B) (.code (.region id ops true) :: k) s := by
  subst hn
  exact X.drawnC hT (eqCallP ops j g (OpEq T fn.ntmps ops j)) ora hl (eqCallP_ok hT fun _ _ h => h) ho _ rfl (h _ fun _ _ h => h)

end Go.Eng
