/- The symbolic executor, part 25: regions that draw their order, their last operations calls that leave what was looked at. -/
import Derived.Test.YtkjhpaeminegoaaEng24

namespace Go.Eng

/-- operations one behind the other, I holding behind each -/
def wpOpsI (P : Program) (ops : Array Oper) (I : World → Prop) (Q : Exit → Act → World → Prop) : List Nat → Act → World → Prop
  | [], a, w => Q .normal a w
  | z :: zs, a, w => wpOp P ops Q z (fun a' w' => I w' ∧ wpOpsI P ops I Q zs a' w') a w

theorem tailI_sound {P : Program} {all : Array Oper} {Q : Exit → Act → World → Prop} {K : KW} {rg : List Rg} {Nf : Nums} {ks : List Nat} : ∀ (zs : List Nat) (L : Array Bool) (a : Act) (w : World), L.size = all.size → tailOk all zs L = true → (∀ r, memN ks r = true → memN (wrL K L) r = true) →
    wpOpsI P all (fun w' => Vis Nf (maskRg ks rg 0) w') Q zs a w → wpF P all Q (fun L => Vis Nf (maskRg (wrL K L) rg 0)) zs.length L a w
  | [], L, a, w, _, h, _, hk => wpF.done (by unfold tailOk at h; cases hr : Region.ready .any all L with | nil => rfl | cons _ _ => rw [hr] at h; cases h) hk
  | z :: zs, L, a, w, hn, h, hm, hk => by
    simp only [tailOk, Bool.and_eq_true] at h
    have hr := only_spec h.1
    have hrm : z ∈ Region.ready .any all L := by rw [hr]; simp
    have hlt : z < L.size := by
      obtain ⟨_, o, ho, _⟩ := mem_ready.1 hrm
      rw [hn]; exact (Array.getElem?_eq_some_iff.1 ho).1
    have hm' : ∀ r, memN ks r = true → memN (wrL K (L.setIfInBounds z true)) r = true := fun r hr => wrL_grow hlt (hm r hr)
    refine wpF.all hr (by simp) fun j hj => ?_
    simp only [List.mem_singleton] at hj; subst hj
    exact wpOp_mono (fun a' w' h' => ⟨h'.1.more hm', tailI_sound zs _ a' w' (by simpa using hn) h.2 hm' h'.2⟩) hk

theorem anyI_sound {E : Env} {T : Tab} (hT : TabOk E.P T) {all : Array Oper} (hsel : Region.noSelect all = true) {Q : Exit → Act → World → Prop} (hQ : PanicOk Q) {call : CallerP} (hc : CallerPOk E.P E.n all E.R E.im call) {oq : Orac} {N0 : Nums} (hoq : OracOk E.P E.n all N0 oq) {K : KW} {rg : List Rg} {fin : St → Prop} {Nf : Nums} (wf : World) (hV : Vis Nf rg wf) {z : Nat} {zs : List Nat} {ks : List Nat} (hK : ∀ r, memN ks r = true → memN (lookK K z) r = true) : ∀ (sch : Sch) (listed : Array Bool) {s : St} {N : Nums} {a : Act} {w : World},
    schPre all sch listed = true → tailOk all (z :: zs) (schEnd sch listed) = true → listed.size = all.size → anyO oq T E.n all K rg call fin sch s → Nf.le N → N0.le N → FrOk E.n N s.fr a → Sat E N s.rg w → Agree (wrL K listed) rg s.rg → rg.length ≤ s.rg.length →
    (∀ s' N' a' w', fin s' → N.le N' → FrOk E.n N' s'.fr a' → Sat E N' s'.rg w' → wpOpsI E.P all (fun w' => Vis Nf (maskRg ks rg 0) w') Q (z :: zs) a' w') → wpF E.P all Q (fun L => Vis Nf (maskRg (wrL K L) rg 0)) (sch.length + (zs.length + 1)) listed a w := by
  have emp : ∀ {l : List Nat}, l.isEmpty = true → l = [] := by intro l h; cases l <;> simp at h ⊢
  have see : ∀ (L : Array Bool) {N : Nums} {rg' : List Rg} {w : World}, Nf.le N → Agree (wrL K L) rg rg' → Sat E N rg' w → Vis Nf (maskRg (wrL K L) rg 0) w := fun L _ _ _ hN ha hS => vis_of_agree (hV.mask _) hN ha hS
  intro sch
  induction sch with
  | nil =>
    intro listed s N a w hs ht hn hg hN hN0 hf hS ha hl hk
    simp only [schEnd, tailOk, Bool.and_eq_true] at ht
    obtain ⟨hr, ht⟩ := ht
    have hr := only_spec hr
    have hrm : z ∈ Region.ready .any all listed := by rw [hr]; simp
    have hlt : z < listed.size := by
      obtain ⟨_, o, ho, _⟩ := mem_ready.1 hrm
      rw [hn]; exact (Array.getElem?_eq_some_iff.1 ho).1
    have hset : (listed.setIfInBounds z true).getD z false = true := by simp [hlt]
    have hall : ∀ r, memN ks r = true → memN (wrL K (listed.setIfInBounds z true)) r = true := fun r hr => by
      obtain ⟨p, h1, h2, h3⟩ := lookK_mem (hK r hr)
      exact memN_flat.2 ⟨p, h1, by rw [h2]; exact hset, h3⟩
    have hk' := hk s N a w hg (Nums.le.refl N) hf hS
    rw [List.length_nil, Nat.zero_add]
    refine wpF.all hr (by simp) fun j hj => ?_
    simp only [List.mem_singleton] at hj; subst hj
    exact wpOp_mono (fun a' w' h => ⟨h.1.more hall, tailI_sound zs _ a' w' (by simpa using hn) ht hall h.2⟩) hk'
  | cons p r ih =>
    obtain ⟨i, q⟩ := p
    intro listed s N a w hs ht hn hg hN hN0 hf hS ha hl hk
    have hS0 := see listed hN ha hS
    cases q with
    | some blk =>
      simp only [schPre, Bool.and_eq_true] at hs
      rw [List.length_cons, Nat.add_right_comm]
      simp only [schEnd] at ht
      obtain ⟨⟨⟨⟨hr, hfree⟩, hclosed⟩, hwithin⟩, hs⟩ := hs
      simp only [anyO] at hg
      obtain ⟨hqk, hg⟩ := hg
      have hqk := quietK_spec hqk
      have hrm : i ∈ Region.ready .any all listed := by simpa using hr
      have hi0 : listed.getD i false = false := by
        have h1 := (mem_ready.1 hrm).1
        rcases Nat.lt_or_ge i listed.size with h' | h'
        · simp [h'] at h1 ⊢; exact h1
        · rw [Array.getD_eq_getD_getElem?, Array.getElem?_eq_none h']; rfl
      have same : ∀ (L : Array Bool) (r : Nat), memN (wrL K (L.setIfInBounds i true)) r = true ↔ memN (wrL K L) r = true := fun L r => by
        simp only [wrL, memN_flat]
        constructor
        · rintro ⟨p, h1, h2, h3⟩
          exact ⟨p, h1, by rwa [getD_set_ne false (fun e => hqk p h1 e.symm)] at h2, h3⟩
        · rintro ⟨p, h1, h2, h3⟩
          exact ⟨p, h1, by rwa [getD_set_ne false (fun e => hqk p h1 e.symm)], h3⟩
      split at hg
      · rename_i f hq
        obtain ⟨_, o, ho, _⟩ := mem_ready.1 hrm
        obtain ⟨hp, hg⟩ := hg
        -- whoever may have come up ahead of it is of blk
        have wide : ∀ {L' : Array Bool} {w' : World}, Up all i listed L' → Vis Nf (maskRg (wrL K L') rg 0) w' → Vis Nf (maskRg (flatK (memB blk) K) rg 0) w' := fun hup hv =>
          hv.more fun r hr => by
            obtain ⟨p, h1, h2, h3⟩ := memN_flat.1 hr
            exact memN_flat.2 ⟨p, h1, (hup.within hclosed hn hi0 hwithin).2.2 _ h2, h3⟩
        obtain ⟨v, hv, hfr⟩ := hoq _ i _ _ _ _ _ _ _ ho hq hp hN0 hf ((wide .here hS0).mono hN)
        refine wpF.take ho hsel hfree hr (fun c a w h => hQ c a o.dst v w h) (fun L w => ⟨fun h => h.more fun r hr => (same L r).1 hr, fun h => h.more fun r hr => (same L r).2 hr⟩) ?_ hS0
          (ih _ hs ht (by simpa using hn) hg hN hN0 hfr hS (fun r g hg hm => ha r g hg (by
            cases hx : memN (wrL K listed) r with
            | true => rw [(same listed r).2 hx] at hm; cases hm
            | false => rfl)) hl hk)
        rcases hv with ⟨hw, hrun⟩ | ⟨hw, rfl⟩
        · exact .inl ⟨hw, fun w ⟨L', hup, hw⟩ => hrun w ((wide hup hw).mono hN)⟩
        · exact .inr ⟨hw, rfl⟩
      · exact hg.elim
    | none =>
      simp only [schPre, Bool.and_eq_true] at hs
      rw [List.length_cons, Nat.add_right_comm]
      simp only [schEnd] at ht
      obtain ⟨hr, hs⟩ := hs
      have hr := only_spec hr
      have hrm : i ∈ Region.ready .any all listed := by rw [hr]; simp
      have hlt : i < listed.size := by
        obtain ⟨_, o, ho, _⟩ := mem_ready.1 hrm
        rw [hn]; exact (Array.getElem?_eq_some_iff.1 ho).1
      have hset : (listed.setIfInBounds i true).getD i false = true := by simp [hlt]
      have grow : ∀ r, memN (wrL K listed) r = true → memN (wrL K (listed.setIfInBounds i true)) r = true := fun r h => by
        obtain ⟨p, h1, h2, h3⟩ := memN_flat.1 h
        refine memN_flat.2 ⟨p, h1, ?_, h3⟩
        by_cases e : i = p.1
        · rw [← e]; exact hset
        · rw [getD_set_ne false e]; exact h2
      have own : ∀ k, memN (lookK K i) k = true → memN (wrL K (listed.setIfInBounds i true)) k = true := fun k hk => by
        obtain ⟨p, h1, h2, h3⟩ := lookK_mem hk
        exact memN_flat.2 ⟨p, h1, by rw [h2]; exact hset, h3⟩
      have ha1 : Agree (wrL K (listed.setIfInBounds i true)) rg s.rg := ha.mono fun r hr => by
        cases hx : memN (wrL K listed) r with
        | true => rw [grow r hx] at hr; cases hr
        | false => rfl
      simp only [anyO] at hg
      split at hg
      · rename_i f hq
        obtain ⟨_, o, ho, _⟩ := mem_ready.1 hrm
        obtain ⟨hp, hg⟩ := hg
        obtain ⟨v, hv, hfr⟩ := hoq _ i _ _ _ _ _ _ _ ho hq hp hN0 hf hS.vis
        refine wpF.all hr (by simp) fun j hj => ?_
        simp only [List.mem_singleton] at hj; subst hj
        unfold wpOp
        simp only [ho]
        have hnext := ih _ hs ht (by simpa using hn) hg hN hN0 hfr hS ha1 hl hk
        rcases hv with ⟨hw, hrun⟩ | ⟨hw, rfl⟩
        · rw [hw, if_pos rfl]
          exact .inl (wp_of_yields (.inl (hrun w hS.vis)) ⟨see _ hN ha1 hS, hnext⟩)
        · rw [hw]
          exact ⟨see _ hN ha1 hS, hnext⟩
      · split at hg
        · rename_i s1 he
          obtain ⟨hm, hg2⟩ := hg
          have hoi : ∃ o, all[i]? = some o := by
            cases ho : all[i]? with
            | some o => exact ⟨o, rfl⟩
            | none => unfold opE at he; rw [nth_eq] at he; simp [ho] at he
          obtain ⟨o, ho⟩ := hoi
          obtain ⟨hw, N', x, w', h1, h2, h3, h4⟩ := opE_sound hT ho he hf hS
          obtain ⟨ha', hl'⟩ := stepE_agree ha1 hl (by cases hst : stR s.fr all i with | some k => rw [hst] at hm; exact own k hm | none => rfl) he
          refine wpF.all hr (by simp) fun j hj => ?_
          simp only [List.mem_singleton] at hj; subst hj
          unfold wpOp
          simp only [ho, hw, if_true]
          exact .inl (wp_of_yields h2 ⟨see _ (hN.trans h1) ha' h4, ih _ hs ht (by simpa using hn) hg2 (hN.trans h1) (hN0.trans h1) h3 h4 ha' hl' (fun s2 N2 a2 w2 hs2 hN2 => hk s2 N2 a2 w2 hs2 (h1.trans hN2))⟩)
        · split at hg
          · rename_i s1 ws p he
            obtain ⟨hp, hm, hg2⟩ := hg
            obtain ⟨h1, o, ho, h2⟩ := hc _ _ _ _ _ he hp
            obtain ⟨hw, h3⟩ := h2 E N a w rfl rfl rfl rfl hf hS
            refine wpF.all hr (by simp) fun j hj => ?_
            simp only [List.mem_singleton] at hj; subst hj
            unfold wpOp
            simp only [ho, hw, if_true]
            refine .inl (h3 _ _ fun N' x w' hN' hf' hS' => ?_)
            have ha' : Agree (wrL K (listed.setIfInBounds j true)) rg s1.rg := fun r g hg hr => h1.agree r g (ha1 r g hg hr) (allN_spec hm r (by
              cases hx : memN (lookK K j) r with
              | true => rw [own r hx] at hr; cases hr
              | false => rfl))
            exact ⟨see _ (hN.trans hN') ha' hS', ih _ hs ht (by simpa using hn) hg2 (hN.trans hN') (hN0.trans hN') hf' hS' ha' (Nat.le_trans hl h1.len) (fun s2 N2 a2 w2 hs2 hN2 => hk s2 N2 a2 w2 hs2 (hN'.trans hN2))⟩
          · exact hg.elim



/-- what is left of a region: behind each operation the regions but ks are as they were -/
def XI (rg0 : List Rg) (ks : List Nat) (all : Array Oper) (k : List It) : List Nat → Ctx → St → Prop
  | [], E, s => X E k s
  | z :: zs, E, s => ∀ (N : Nums) (a : Act) (w : World), E.N0.le N → FrOk E.n N s.fr a → Sat E.toEnv N s.rg w → wpOp E.P all (sem E.P E.B k E.Q) z (fun a' w' => ∃ (E' : Ctx) (N' : Nums) (s' : St), E'.P = E.P ∧ E'.n = E.n ∧ E'.Q = E.Q ∧ E'.B = E.B ∧ N.le N' ∧ E'.N0.le N' ∧ FrOk E'.n N' s'.fr a' ∧ Sat E'.toEnv N' s'.rg w' ∧ Agree ks rg0 s'.rg ∧ XI rg0 ks all k zs E' s') a w

theorem XI.ops {rg0 : List Rg} {ks : List Nat} {all : Array Oper} {k : List It} {Nf : Nums} {w0 : World} (h0 : Vis Nf (maskRg ks rg0 0) w0) : ∀ (zs : List Nat) (E : Ctx) (s : St), XI rg0 ks all k zs E s → ∀ (N : Nums) (a : Act) (w : World), Nf.le N → E.N0.le N → FrOk E.n N s.fr a → Sat E.toEnv N s.rg w →
    wpOpsI E.P all (fun w' => Vis Nf (maskRg ks rg0 0) w') (sem E.P E.B k E.Q) zs a w
  | [], E, s, h, N, a, w, _, hN, hf, hS => h N a w hN hf hS
  | z :: zs, E, s, h, N, a, w, hNf, hN, hf, hS => by
    refine wpOp_mono (fun a' w' ⟨E', N', s', e1, e2, e3, e4, hN', hN0, hf', hS', ha, hx⟩ => ⟨vis_of_agree h0 (hNf.trans hN') ha hS', ?_⟩) (h N a w hN hf hS)
    have := XI.ops h0 zs E' s' hx N' a' w' (hNf.trans hN') hN0 hf' hS'
    rw [e1, e3, e4] at this
    exact this

def drawnI (oq : Orac) (T : Tab) (n : Nat) (all : Array Oper) (call : CallerP) (ks : List Nat) (fin : St → Prop) (z : Nat) (sch : Sch) (s : St) : Prop :=
  anyO oq T n all ((z, ks) :: dryO oq T n all call sch s) s.rg call fin sch s

theorem drawnI_sound {E : Ctx} {T : Tab} (hT : TabOk E.P T) {id : Nat} {all : Array Oper} {call : CallerP} (hc : CallerPOk E.P E.n all E.R E.im call) {oq : Orac} {N0 : Nums} (hoq : OracOk E.P E.n all N0 oq) {z : Nat} {zs : List Nat} {ks : List Nat} {sch sch2 : Sch} (hok : anyOk all (sch ++ sch2) = true) (hz : tailOk all (z :: zs) (schEnd sch (Array.replicate all.size false)) = true) (hlz : sch2.length = zs.length + 1) {k : List It} {s : St} (hN00 : N0 = E.N0) (hQ : PanicOk (sem E.P E.B k E.Q))
    (hd : drawnI oq T E.n all call ks (fun s' => XI s.rg ks all k (z :: zs) E s') z sch s) {N : Nums} {a : Act} {w : World} (hN0 : N0.le N) (hf : FrOk E.n N s.fr a) (hS : Sat E.toEnv N s.rg w) : (Code.region id all true).wp E.P (sem E.P E.B k E.Q) a w := by
  have hS' : Sat E.toEnv N s.rg { w with drawn := w.drawn + 1 } := hS.drew
  simp only [anyOk, Bool.and_eq_true] at hok
  obtain ⟨⟨hn, hlen⟩, hsch⟩ := hok
  have hlen := Nat.eq_of_beq_eq_true hlen
  have := anyI_sound (E := E.toEnv) hT hn hQ hc hoq _ hS'.vis (z := z) (zs := zs) (ks := ks) (fun r hr => by simp only [lookK, Nat.beq_refl, cond_true]; exact hr) sch _ (schPre_of sch _ hsch) hz (by simp) hd (Nums.le.refl N) hN0 hf hS' (fun r g hg _ => hg) (Nat.le_refl _) (fun s' N' a' w' hx hN' hf' hS2 => XI.ops (hS'.vis.mask ks) _ E s' hx N' a' w' hN' (by rw [← hN00]; exact hN0.trans hN') hf' hS2)
  rw [List.length_append, hlz] at hlen
  rw [hlen] at this
  exact wp_region_any hT.mixed this.any

/-- a region that draws its order, but for its last operations, that leave the regions but ks -/
theorem X.drawnI {P : Program} {fn : Func} {R : Ending → World → Prop} {W : World} {O : Nat → Nat → Prop} {im : Nat → Nat → Option Value} {D : Nat → Nat → Prop} {Rr : World → Prop} {N : Nums} {B : SchT} {T : Tab} (hT : TabOk P T) {id : Nat} {ops : Array Oper} {k : List It} {s : St} (call : CallerP) (ora : Nat → Fr → Option (Fr × Prop)) (z : Nat) (zs : List Nat) (ks : List Nat) {sch1 : Sch} (j : Nat)
    (hl : lookS B id = some sch1) (hz : tailOk ops (z :: zs) (schEnd (sch1.take j) (Array.replicate ops.size false)) = true) (hj : (sch1.drop j).length = zs.length + 1) (hc : CallerPOk P fn.ntmps ops Rr im call) (ho : OracOk P fn.ntmps ops N (fun _ => ora)) (n : Nat) (hn : fn.ntmps = n) (h : Eng.drawnI (oracQ ora T n ops) T n ops call ks (fun s' => XI s.rg ks ops k (z :: zs) (mkE P fn R W O im D Rr N B) s') z (sch1.take j) s) : X (mkE P fn R W O im D Rr N B) (.code (.region id ops true) :: k) s := by
  subst hn
  intro N' a w hN hf hS
  show _ → Code.wp _ _ _ _ _
  intro hreg
  simp only [regsB, hl] at hreg
  rw [← List.take_append_drop j sch1] at hreg
  exact drawnI_sound (E := mkE P fn R W O im D Rr N B) hT hc (oracQ_ok hT ho) hreg hz hj rfl (PanicOk.sem (fun _ _ d _ _ h => by cases d <;> exact h) k) h hN hf hS

section
variable {E : Ctx} {T : Tab} {all : Array Oper} {zs : List Nat} {k : List It} {s : St} {o : Oper} {f : Fr} {rg0 : List Rg} {ks : List Nat}

/-- behind a call in such a rest -/
def GoesI (rg0 : List Rg) (ks : List Nat) (all : Array Oper) (k : List It) (zs : List Nat) (E : Ctx) (N : Nums) (f : Fr) (d : Option Nat) (v : Value) (w' : World) : Prop :=
  ∃ (E' : Ctx) (N' : Nums) (r : SV) (rg' : List Rg) (f' : Fr), E'.P = E.P ∧ E'.n = E.n ∧ E'.Q = E.Q ∧ E'.B = E.B ∧ N.le N' ∧ E'.N0.le N' ∧ Sat E'.toEnv N' rg' w' ∧ r.den N' = some v ∧ putO E.n f d (.val r) = some f' ∧ Agree ks rg0 rg' ∧ XI rg0 ks all k zs E' ⟨f', rg'⟩

theorem XI.call {z : Nat} {g : FuncId} {xs : Array Operand} {ts : Array TypeId} {l : List SV} (ho : nth all.toList z = some o) (hg : o.guard = none)
    (hop : o.op = .call { callee := .value (.func g), args := xs, argTypes := ts }) (hl : evL s.fr xs.toList = some l) (hb : ∀ args w, (callFunc g args).run E.P w = .ok (.enter g args) w)
    (h : ∀ (N : Nums) (w : World) (args : List Value), E.N0.le N → Sat E.toEnv N s.rg w → SV.denL N l = some args →
      Calls E.P g args.toArray w fun e w' => ∃ v, e = .returned v ∧ GoesI rg0 ks all k zs E N s.fr o.dst v w') : XI rg0 ks all k (z :: zs) E s := by
  intro N a w hN hfr hS
  have ho' : all[z]? = some o := by rw [nth_eq] at ho; simpa using ho
  have hargs := evL_sound hfr _ hl
  have hc := h N w _ hN hS hargs
  have hrun : (execOp a.eval o).run E.P w = .ok (.enter g (xs.toList.map a.eval).toArray) w := by
    simp only [execOp, hop, resolve, Act.eval, Deferred.ofValue, Sem.run_bind, Sem.run_pure, Result.andThen, invoke]
    rw [hb]
    congr 2
    apply Array.ext'
    simp
  unfold wpOp
  simp only [ho', Region.wanted, hg, if_true]
  refine .inl ?_
  unfold Oper.wp
  rw [hrun]
  refine Calls.mono hc fun e w' ⟨v, he, E', N', r, rg', f', h1, h2, h3, hB, h4, h5, h6, h7, h8, h9, h10⟩ => ?_
  subst he
  exact ⟨E', N', ⟨f', rg'⟩, h1, h2, h3, hB, h4, h5, by rw [h2]; exact putO_sound (hfr.mono h4) h7 h8, h6, h9, h10⟩

/-- an operation that yields a value, and leaves the world as it is -/
theorem XI.step {z : Nat} (hT : TabOk E.P T) {f : Fr} (ho : opQ T E.n all s.rg z s.fr = some f) (ha : Agree ks rg0 s.rg) (h : XI rg0 ks all k zs E ⟨f, s.rg⟩) : XI rg0 ks all k (z :: zs) E s := by
  intro N a w hN hfr hS
  obtain ⟨o, ho'⟩ : ∃ o, all[z]? = some o := by
    cases hx : all[z]? with
    | some o => exact ⟨o, rfl⟩
    | none => unfold opQ at ho; rw [nth_eq] at ho; simp [hx] at ho
  obtain ⟨v, hv, hf'⟩ := opQ_sound hT ho' ho hfr hS.vis
  unfold wpOp
  simp only [ho']
  have hnext : ∃ (E' : Ctx) (N' : Nums) (s' : St), E'.P = E.P ∧ E'.n = E.n ∧ E'.Q = E.Q ∧ E'.B = E.B ∧ N.le N' ∧ E'.N0.le N' ∧ FrOk E'.n N' s'.fr (a.put o.dst v) ∧ Sat E'.toEnv N' s'.rg w ∧ Agree ks rg0 s'.rg ∧ XI rg0 ks all k zs E' s' :=
    ⟨E, N, ⟨f, s.rg⟩, rfl, rfl, rfl, rfl, Nums.le.refl N, hN, hf', hS, ha, h⟩
  rcases hv with ⟨hw, hrun⟩ | ⟨hw, rfl⟩
  · rw [hw, if_pos rfl]
    exact .inl (wp_of_yields (.inl (hrun w hS.vis)) hnext)
  · rw [hw]
    exact hnext

def stepQ (o : Option Fr) (rg : List Rg) (fin : St → Prop) : Prop := match o with
  | some f => fin ⟨f, rg⟩
  | none => False

theorem XI.quiet {z : Nat} (hT : TabOk E.P T) (ha : Agree ks rg0 s.rg) (n : Nat) (hn : E.n = n) (h : stepQ (opQ T n all s.rg z s.fr) s.rg (fun s' => XI rg0 ks all k zs E s')) : XI rg0 ks all k (z :: zs) E s := by
  subst hn
  unfold stepQ at h
  split at h
  · rename_i f hf
    exact XI.step hT hf ha h
  · exact h.elim

theorem XI.done (h : X E k s) : XI rg0 ks all k [] E s := h

theorem Sat.turn' {E : Env} {N : Nums} {rg : List Rg} {w w' : World} {D' : Nat → Nat → Prop} {R' : World → Prop} (h : Sat E N rg w) (hc : Chg E.D w w') (hO : ∀ k o, E.D k o → E.W.heap.size ≤ k ∨ E.O k o) (him : ∀ k o, E.D k o → E.im k o = none)
    (hrg : ∀ (r : Nat) (g : Rg) (p : Num), rg[r]? = some g → N[r]? = some p → g.own = true ∨ ∀ j, j < g.cells.length → ¬ E.D p.b (p.o + j)) (hD : ∀ k o, D' k o → (E.D k o ∨ w.heap.size ≤ k) ∧ There w' k o) (hl : Loc D' R') (hR : R' w') : Sat { E with D := D', R := R' } N rg w' := by
  refine h.after (rg' := rg) (m' := E.im) hc (fun k o _ hd => .inr ⟨hd, hO k o hd⟩) ⟨fun _ _ _ h => h, fun k o v hv => ?_, fun _ _ _ h => .inl h⟩ hD hl hR rfl (fun r g g' p hg hg' hp => ?_)
  · refine cell_of_chg hc (fun hd => ?_) (h.imm k o v hv)
    rw [him k o hd] at hv; cases hv
  · rw [hg] at hg'; cases hg'
    refine ⟨rfl, rfl, fun _ => rfl, fun ho => h.ext r g p hg hp ho, .inl ⟨rfl, fun j hj => ?_⟩⟩
    rcases hrg r g p hg hp with ho | ho
    · exact h.dd r g p hg hp ho j (Nat.lt_of_lt_of_le hj (h.ext r g p hg hp ho))
    · exact ho j hj

theorem GoesI.turn {N : Nums} {d : Option Nat} {v : Value} {w w' : World} (D' : Nat → Nat → Prop) (R' : World → Prop) (hN : E.N0.le N) (h : Sat E.toEnv N s.rg w) (hc : Chg E.D w w') (hO : ∀ k o, E.D k o → E.W.heap.size ≤ k ∨ E.O k o) (him : ∀ k o, E.D k o → E.im k o = none)
    (hrg : ∀ (r : Nat) (g : Rg) (p : Num), s.rg[r]? = some g → N[r]? = some p → g.own = true ∨ ∀ j, j < g.cells.length → ¬ E.D p.b (p.o + j)) (hD : ∀ k o, D' k o → (E.D k o ∨ w.heap.size ≤ k) ∧ There w' k o) (hl : Loc D' R') (hR : R' w') {r : SV} (hr : r.den N = some v) {f' : Fr} (hp : putO E.n s.fr d (.val r) = some f') (ha : Agree ks rg0 s.rg)
    (hx : XI rg0 ks all k zs (E.withDR D' R') ⟨f', s.rg⟩) : GoesI rg0 ks all k zs E N s.fr d v w' :=
  ⟨E.withDR D' R', N, r, s.rg, f', rfl, rfl, rfl, rfl, Nums.le.refl N, hN, h.turn' hc hO him hrg hD hl hR, hr, hp, ha, hx⟩

theorem Goes.turn' {k : List It} {N : Nums} {d : Option Nat} {v : Value} {w w' : World} (D' : Nat → Nat → Prop) (R' : World → Prop) (hN : E.N0.le N) (h : Sat E.toEnv N s.rg w) (hc : Chg E.D w w') (hO : ∀ k o, E.D k o → E.W.heap.size ≤ k ∨ E.O k o) (him : ∀ k o, E.D k o → E.im k o = none)
    (hrg : ∀ (r : Nat) (g : Rg) (p : Num), s.rg[r]? = some g → N[r]? = some p → g.own = true ∨ ∀ j, j < g.cells.length → ¬ E.D p.b (p.o + j)) (hD : ∀ k o, D' k o → (E.D k o ∨ w.heap.size ≤ k) ∧ There w' k o) (hl : Loc D' R') (hR : R' w') {r : SV} (hr : r.den N = some v) {f' : Fr} (hp : putO E.n s.fr d (.val r) = some f') (hx : X (E.withDR D' R') k ⟨f', s.rg⟩) : Goes E N k s.fr d v w' :=
  ⟨E.withDR D' R', N, r, s.rg, f', rfl, rfl, rfl, rfl, Nums.le.refl N, hN, h.turn' hc hO him hrg hD hl hR, hr, hp, hx⟩

end

end Go.Eng
