/- The symbolic executor, part 30: regions that draw their order, where what a call has made may be looked at behind it. -/
import Derived.Test.YthaffebapmkppaaEE

namespace Go.Eng

theorem setT {L : Array Bool} {i j : Nat} (h : L.getD j false = true) : (L.setIfInBounds i true).getD j false = true := by
  by_cases e : i = j
  · subst e
    have hlt : i < L.size := by
      rcases Nat.lt_or_ge i L.size with h' | h'
      · exact h'
      · rw [Array.getD_eq_getD_getElem?, Array.getElem?_eq_none h'] at h; cases h
    simp [hlt]
  · rw [getD_set_ne false e]; exact h

theorem wpF_mono {P : Program} {ops : Array Oper} {Q : Exit → Act → World → Prop} {S S' : Array Bool → World → Prop} : ∀ (m : Nat) (L : Array Bool) (a : Act) (w : World), (∀ L' w, (∀ j, L.getD j false = true → L'.getD j false = true) → S' L' w → S L' w) → wpF P ops Q S' m L a w → wpF P ops Q S m L a w
  | 0, _, _, _, _, h => h
  | m + 1, L, a, w, hm, h => ⟨h.1, fun i hi => wpOp_mono (fun a' w' h' => ⟨hm _ _ (fun j hj => setT hj) h'.1, wpF_mono m _ a' w' (fun L' w hL => hm L' w fun j hj => hL j (setT hj)) h'.2⟩) (h.2 i hi)⟩

theorem vis_of_vis {ks : List Nat} {rg rg' : List Rg} {N N' : Nums} {w w' : World} (h0 : Vis N (maskRg ks rg 0) w) (hN : N.le N') (ha : Agree ks rg rg') (h : Vis N' (maskRg ks rg' 0) w') : Vis N (maskRg ks rg 0) w' := by
  refine ⟨h0.len, fun r g p hg hp j c hc => ?_, h0.ext⟩
  obtain ⟨v, h1, _⟩ := h0.cell r g p hg hp j c hc
  refine ⟨v, h1, ?_⟩
  rw [memN_mask] at hg
  obtain ⟨g0, k1, k2⟩ := Option.map_eq_some_iff.1 hg
  cases hm : memN ks (0 + r) with
  | true => rw [hm] at k2; simp at k2; subst k2; simp at hc
  | false =>
    rw [hm] at k2; simp at k2; subst k2
    have hg' : (maskRg ks rg' 0)[r]? = some g0 := by
      rw [memN_mask, ha r g0 k1 (by simpa using hm), hm]
      rfl
    obtain ⟨u, q1, q2⟩ := h.cell r g0 p hg' (hN r p hp) j c hc
    rw [SV.den_mono hN c h1] at q1; cases q1
    exact q2

def anyD (oq : Orac) (T : Tab) (n : Nat) (all : Array Oper) (K : KW) (call : CallerP) (fin : St → Prop) : List Rg → Sch → St → Prop
  | _, [], s => fin s
  | rg, (i, some blk) :: r, s => quietK K i = true ∧
      match oq (maskRg (flatK (memB blk) K) rg 0) i s.fr with
      | some (f, p) => p ∧ anyD oq T n all K call fin rg r ⟨f, s.rg⟩
      | none => False
  | rg, (i, none) :: r, s => match oq s.rg i s.fr with
    | some (f, p) => p ∧ anyD oq T n all K call fin rg r ⟨f, s.rg⟩
    | none => match call i s with
      | some (s', ws, p) => p ∧ allN (lookK K i) ws = true ∧ anyD oq T n all K call fin s'.rg r s'
      | none => match opE T n all i s with
        | some s' => (match stR s.fr all i with | some k => memN (lookK K i) k | none => true) = true ∧ anyD oq T n all K call fin rg r s'
        | none => False

theorem anyD_sound {E : Env} {T : Tab} (hT : TabOk E.P T) {all : Array Oper} (hsel : Region.noSelect all = true) {Q : Exit → Act → World → Prop} (hQ : PanicOk Q) {call : CallerP} (hc : CallerPOk E.P E.n all E.R E.im call) {oq : Orac} {N0 : Nums} (hoq : OracOk E.P E.n all N0 oq) {K : KW} {fin : St → Prop} : ∀ (sch : Sch) (listed : Array Bool) {rg : List Rg} {Nf : Nums} {wf : World} (hV : Vis Nf rg wf) {s : St} {N : Nums} {a : Act} {w : World},
    schOk all sch listed = true → listed.size = all.size → anyD oq T E.n all K call fin rg sch s → Nf.le N → N0.le N → FrOk E.n N s.fr a → Sat E N s.rg w → Agree (wrL K listed) rg s.rg → rg.length ≤ s.rg.length →
    (∀ s' N' a' w', fin s' → N.le N' → FrOk E.n N' s'.fr a' → Sat E N' s'.rg w' → Q .normal a' w') → wpF E.P all Q (fun L => Vis Nf (maskRg (wrL K L) rg 0)) sch.length listed a w := by
  have emp : ∀ {l : List Nat}, l.isEmpty = true → l = [] := by intro l h; cases l <;> simp at h ⊢
  intro sch
  induction sch with
  | nil =>
    intro listed rg Nf wf hV s N a w hs hn hg hN hN0 hf hS ha hl hk
    exact wpF.done (emp hs) (hk s N a w hg (Nums.le.refl N) hf hS)
  | cons p r ih =>
    obtain ⟨i, q⟩ := p
    intro listed rg Nf wf hV s N a w hs hn hg hN hN0 hf hS ha hl hk
    have see : ∀ (L : Array Bool) {N : Nums} {rg' : List Rg} {w : World}, Nf.le N → Agree (wrL K L) rg rg' → Sat E N rg' w → Vis Nf (maskRg (wrL K L) rg 0) w := fun L _ _ _ hN ha hS => vis_of_agree (hV.mask _) hN ha hS
    have hS0 := see listed hN ha hS
    cases q with
    | some blk =>
      simp only [schOk, Bool.and_eq_true] at hs
      obtain ⟨⟨⟨⟨hr, hfree⟩, hclosed⟩, hwithin⟩, hs⟩ := hs
      simp only [anyD] at hg
      obtain ⟨hqk, hg⟩ := hg
      have hqk := quietK_spec hqk
      have hrm : i ∈ Region.ready .any all listed := by simpa using hr
      have hi0 : listed.getD i false = false := by
        have h1 := (mem_ready.1 hrm).1
        rcases Nat.lt_or_ge i listed.size with h' | h'
        · simp [h'] at h1 ⊢; exact h1
        · rw [Array.getD_eq_getD_getElem?, Array.getElem?_eq_none h']; rfl
      have same : ∀ (L : Array Bool) (r : Nat), memN (wrL K (L.setIfInBounds i true)) r = true ↔ memN (wrL K L) r = true := fun L r => by
        simp only [wrL, memN_flat]
        constructor
        · rintro ⟨p, h1, h2, h3⟩
          exact ⟨p, h1, by rwa [getD_set_ne false (fun e => hqk p h1 e.symm)] at h2, h3⟩
        · rintro ⟨p, h1, h2, h3⟩
          exact ⟨p, h1, by rwa [getD_set_ne false (fun e => hqk p h1 e.symm)], h3⟩
      split at hg
      · rename_i f hq
        obtain ⟨_, o, ho, _⟩ := mem_ready.1 hrm
        obtain ⟨hp, hg⟩ := hg
        -- whoever may have come up ahead of it is of blk
        have wide : ∀ {L' : Array Bool} {w' : World}, Up all i listed L' → Vis Nf (maskRg (wrL K L') rg 0) w' → Vis Nf (maskRg (flatK (memB blk) K) rg 0) w' := fun hup hv =>
          hv.more fun r hr => by
            obtain ⟨p, h1, h2, h3⟩ := memN_flat.1 hr
            exact memN_flat.2 ⟨p, h1, (hup.within hclosed hn hi0 hwithin).2.2 _ h2, h3⟩
        obtain ⟨v, hv, hfr⟩ := hoq _ i _ _ _ _ _ _ _ ho hq hp hN0 hf ((wide .here hS0).mono hN)
        refine wpF.take ho hsel hfree hr (fun c a w h => hQ c a o.dst v w h) (fun L w => ⟨fun h => h.more fun r hr => (same L r).1 hr, fun h => h.more fun r hr => (same L r).2 hr⟩) ?_ hS0
          (ih _ hV hs (by simpa using hn) hg hN hN0 hfr hS (fun r g hg hm => ha r g hg (by
            cases hx : memN (wrL K listed) r with
            | true => rw [(same listed r).2 hx] at hm; cases hm
            | false => rfl)) hl hk)
        rcases hv with ⟨hw, hrun⟩ | ⟨hw, rfl⟩
        · exact .inl ⟨hw, fun w ⟨L', hup, hw⟩ => hrun w ((wide hup hw).mono hN)⟩
        · exact .inr ⟨hw, rfl⟩
      · exact hg.elim
    | none =>
      simp only [schOk, Bool.and_eq_true] at hs
      obtain ⟨hr, hs⟩ := hs
      have hr := only_spec hr
      have hrm : i ∈ Region.ready .any all listed := by rw [hr]; simp
      have hlt : i < listed.size := by
        obtain ⟨_, o, ho, _⟩ := mem_ready.1 hrm
        rw [hn]; exact (Array.getElem?_eq_some_iff.1 ho).1
      have hset : (listed.setIfInBounds i true).getD i false = true := by simp [hlt]
      have grow : ∀ r, memN (wrL K listed) r = true → memN (wrL K (listed.setIfInBounds i true)) r = true := fun r h => by
        obtain ⟨p, h1, h2, h3⟩ := memN_flat.1 h
        refine memN_flat.2 ⟨p, h1, ?_, h3⟩
        by_cases e : i = p.1
        · rw [← e]; exact hset
        · rw [getD_set_ne false e]; exact h2
      have own : ∀ k, memN (lookK K i) k = true → memN (wrL K (listed.setIfInBounds i true)) k = true := fun k hk => by
        obtain ⟨p, h1, h2, h3⟩ := lookK_mem hk
        exact memN_flat.2 ⟨p, h1, by rw [h2]; exact hset, h3⟩
      have ha1 : Agree (wrL K (listed.setIfInBounds i true)) rg s.rg := ha.mono fun r hr => by
        cases hx : memN (wrL K listed) r with
        | true => rw [grow r hx] at hr; cases hr
        | false => rfl
      simp only [anyD] at hg
      split at hg
      · rename_i f hq
        obtain ⟨_, o, ho, _⟩ := mem_ready.1 hrm
        obtain ⟨hp, hg⟩ := hg
        obtain ⟨v, hv, hfr⟩ := hoq _ i _ _ _ _ _ _ _ ho hq hp hN0 hf hS.vis
        refine wpF.all hr (by simp) fun j hj => ?_
        simp only [List.mem_singleton] at hj; subst hj
        unfold wpOp
        simp only [ho]
        have hnext := ih _ hV hs (by simpa using hn) hg hN hN0 hfr hS ha1 hl hk
        rcases hv with ⟨hw, hrun⟩ | ⟨hw, rfl⟩
        · rw [hw, if_pos rfl]
          exact .inl (wp_of_yields (.inl (hrun w hS.vis)) ⟨see _ hN ha1 hS, hnext⟩)
        · rw [hw]
          exact ⟨see _ hN ha1 hS, hnext⟩
      · split at hg
        · rename_i s1 ws p he
          obtain ⟨hp, hm, hg2⟩ := hg
          obtain ⟨h1, o, ho, h2⟩ := hc _ _ _ _ _ he hp
          obtain ⟨hw, h3⟩ := h2 E N a w rfl rfl rfl rfl hf hS
          refine wpF.all hr (by simp) fun j hj => ?_
          simp only [List.mem_singleton] at hj; subst hj
          unfold wpOp
          simp only [ho, hw, if_true]
          refine .inl (h3 _ _ fun N' x w' hN' hf' hS' => ?_)
          have ha' : Agree (wrL K (listed.setIfInBounds j true)) rg s1.rg := fun r g hg hr => h1.agree r g (ha1 r g hg hr) (allN_spec hm r (by
            cases hx : memN (lookK K j) r with
            | true => rw [own r hx] at hr; cases hr
            | false => rfl))
          have hn2 := ih _ hS'.vis hs (by simpa using hn) hg2 (Nums.le.refl _) (hN0.trans hN') hf' hS' (fun r g hg _ => hg) (Nat.le_refl _) (fun s2 N2 a2 w2 hs2 hN2 => hk s2 N2 a2 w2 hs2 (hN'.trans hN2))
          refine ⟨see _ (hN.trans hN') ha' hS', wpF_mono _ _ _ _ (fun L' w2 hsub hv => vis_of_vis (hV.mask _) (hN.trans hN') (ha'.mono fun r hr => ?_) hv) hn2⟩
          cases hx : memN (wrL K (listed.setIfInBounds j true)) r with
          | false => rfl
          | true =>
            obtain ⟨p, q1, q2, q3⟩ := memN_flat.1 hx
            have : memN (wrL K L') r = true := memN_flat.2 ⟨p, q1, hsub _ q2, q3⟩
            rw [this] at hr; cases hr
        · split at hg
          · rename_i s1 he
            obtain ⟨hm, hg2⟩ := hg
            have hoi : ∃ o, all[i]? = some o := by
              cases ho : all[i]? with
              | some o => exact ⟨o, rfl⟩
              | none => unfold opE at he; rw [nth_eq] at he; simp [ho] at he
            obtain ⟨o, ho⟩ := hoi
            obtain ⟨hw, N', x, w', h1, h2, h3, h4⟩ := opE_sound hT ho he hf hS
            obtain ⟨ha', hl'⟩ := stepE_agree ha1 hl (by cases hst : stR s.fr all i with | some k => rw [hst] at hm; exact own k hm | none => rfl) he
            refine wpF.all hr (by simp) fun j hj => ?_
            simp only [List.mem_singleton] at hj; subst hj
            unfold wpOp
            simp only [ho, hw, if_true]
            exact .inl (wp_of_yields h2 ⟨see _ (hN.trans h1) ha' h4, ih _ hV hs (by simpa using hn) hg2 (hN.trans h1) (hN0.trans h1) h3 h4 ha' hl' (fun s2 N2 a2 w2 hs2 hN2 => hk s2 N2 a2 w2 hs2 (h1.trans hN2))⟩)
          · exact hg.elim

def drawnD (oq : Orac) (T : Tab) (n : Nat) (all : Array Oper) (call : CallerP) (fin : St → Prop) (sch : Sch) (s : St) : Prop :=
  anyD oq T n all (dryC oq T n all call sch s) call fin s.rg sch s

theorem drawnD_sound {E : Env} {T : Tab} (hT : TabOk E.P T) {id : Nat} {all : Array Oper} {call : CallerP} (hc : CallerPOk E.P E.n all E.R E.im call) {oq : Orac} {N0 : Nums} (hoq : OracOk E.P E.n all N0 oq) {sch : Sch} (hok : anyOk all sch = true) {fin : St → Prop} {s : St} (hd : drawnD oq T E.n all call fin sch s) {Q : Exit → Act → World → Prop} (hQ : PanicOk Q) {N : Nums} {a : Act} {w : World} (hN0 : N0.le N) (hf : FrOk E.n N s.fr a) (hS : Sat E N s.rg w)
    (hk : ∀ s' N' a' w', fin s' → N.le N' → FrOk E.n N' s'.fr a' → Sat E N' s'.rg w' → Q .normal a' w') : (Code.region id all true).wp E.P Q a w := by
  have hS' : Sat E N s.rg { w with drawn := w.drawn + 1 } := hS.drew
  simp only [anyOk, Bool.and_eq_true] at hok
  obtain ⟨⟨hn, hlen⟩, hsch⟩ := hok
  have hlen := Nat.eq_of_beq_eq_true hlen
  have := anyD_sound hT hn hQ hc hoq sch _ hS'.vis hsch (by simp) hd (Nums.le.refl N) hN0 hf hS' (fun r g hg _ => hg) (Nat.le_refl _) hk
  rw [hlen] at this
  exact wp_region_any hT.mixed this.any

/-- a region that draws its order, with any oracle; what a call has made may be looked at -/
theorem X.drawnD {P : Program} {fn : Func} {R : Ending → World → Prop} {W : World} {O : Nat → Nat → Prop} {im : Nat → Nat → Option Value} {D : Nat → Nat → Prop} {Rr : World → Prop} {N : Nums} {B : SchT} {T : Tab} (hT : TabOk P T) {id : Nat} {ops : Array Oper} {k : List It} {s : St} (call : CallerP) (ora : Orac) {sch : Sch}
    (hl : lookS B id = some sch) (hc : CallerPOk P fn.ntmps ops Rr im call) (ho : OracOk P fn.ntmps ops N ora) (n : Nat) (hn : fn.ntmps = n) (h : Eng.drawnD (oracR ora T n ops) T n ops call (fun s' => X (mkE P fn R W O im D Rr N B) k s') sch s) : X (mkE P fn R W O im D Rr N B) (.code (.region id ops true) :: k) s := by
  subst hn
  intro N' a w hN hf hS
  show _ → Code.wp _ _ _ _ _
  intro hreg
  simp only [regsB, hl] at hreg
  exact drawnD_sound (E := (mkE P fn R W O im D Rr N B).toEnv) hT hc (oracR_ok hT ho) hreg h (PanicOk.sem (fun _ _ d _ _ h => by cases d <;> exact h) k) hN hf hS (fun s2 N2 a2 w2 h hN2 hf2 hS2 => h N2 a2 w2 (hN.trans hN2) hf2 hS2)

end Go.Eng
