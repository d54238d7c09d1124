/- The symbolic executor, part 18: regions that draw their order, but for their last operations. -/
import Derived.Test.YtkjhpaeminegoaaEng17

namespace Go.Eng

/-- of the operations that are left each is the only one that may come up -/
def tailOk (ops : Array Oper) : List Nat → Array Bool → Bool
  | [], L => (Region.ready .any ops L).isEmpty
  | z :: zs, L => only (Region.ready .any ops L) z && tailOk ops zs (L.setIfInBounds z true)

def schPre (ops : Array Oper) : Sch → Array Bool → Bool
  | [], _ => true
  | (i, some blk) :: r, listed => (Region.ready .any ops listed).contains i && Region.free .any ops listed i && closedB ops i blk && withinB listed ops.size blk && schPre ops r (listed.setIfInBounds i true)
  | (i, none) :: r, listed => only (Region.ready .any ops listed) i && schPre ops r (listed.setIfInBounds i true)

def schEnd : Sch → Array Bool → Array Bool
  | [], L => L
  | (i, _) :: r, L => schEnd r (L.setIfInBounds i true)

theorem schPre_of {ops : Array Oper} {t : Sch} : ∀ (s : Sch) (L : Array Bool), schOk ops (s ++ t) L = true → schPre ops s L = true
  | [], _, _ => rfl
  | (i, some blk) :: r, L, h => by
    simp only [List.cons_append, schOk, Bool.and_eq_true] at h
    simp only [schPre, Bool.and_eq_true]
    exact ⟨h.1, schPre_of r _ h.2⟩
  | (i, none) :: r, L, h => by
    simp only [List.cons_append, schOk, Bool.and_eq_true] at h
    simp only [schPre, Bool.and_eq_true]
    exact ⟨h.1, schPre_of r _ h.2⟩

theorem vis_masked {Nf : Nums} {rg : List Rg} {wf w : World} (hV : Vis Nf rg wf) {ks : List Nat} (hall : ∀ r, r < rg.length → memN ks r = true) : Vis Nf (maskRg ks rg 0) w := by
  refine ⟨by rw [maskRg_length]; exact hV.len, fun r g p hg hp j c hc => ?_, fun r g p hg hp ho => ?_⟩
  · rw [memN_mask] at hg
    obtain ⟨g0, k1, k2⟩ := Option.map_eq_some_iff.1 hg
    rw [Nat.zero_add, hall r (List.getElem?_eq_some_iff.1 k1).1] at k2
    simp at k2; subst k2; simp at hc
  · rw [memN_mask] at hg
    obtain ⟨g0, k1, k2⟩ := Option.map_eq_some_iff.1 hg
    rw [Nat.zero_add, hall r (List.getElem?_eq_some_iff.1 k1).1] at k2
    simp at k2; subst k2; simp

theorem wrL_grow {K : KW} {L : Array Bool} {z r : Nat} (hz : z < L.size) (h : memN (wrL K L) r = true) : memN (wrL K (L.setIfInBounds z true)) r = true := by
  obtain ⟨p, h1, h2, h3⟩ := memN_flat.1 h
  refine memN_flat.2 ⟨p, h1, ?_, h3⟩
  by_cases e : z = p.1
  · rw [← e]; simp [hz]
  · rw [getD_set_ne false e]; exact h2

theorem tail_sound {P : Program} {all : Array Oper} {Q : Exit → Act → World → Prop} {K : KW} {rg : List Rg} {Nf : Nums} {wf : World} (hV : Vis Nf rg wf) : ∀ (zs : List Nat) (L : Array Bool) (a : Act) (w : World), L.size = all.size → tailOk all zs L = true → (∀ r, r < rg.length → memN (wrL K L) r = true) →
    wpOps P all Q zs a w → wpF P all Q (fun L => Vis Nf (maskRg (wrL K L) rg 0)) zs.length L a w
  | [], L, a, w, _, h, _, hk => wpF.done (by unfold tailOk at h; cases hr : Region.ready .any all L with | nil => rfl | cons _ _ => rw [hr] at h; cases h) hk
  | z :: zs, L, a, w, hn, h, hm, hk => by
    simp only [tailOk, Bool.and_eq_true] at h
    have hr := only_spec h.1
    have hrm : z ∈ Region.ready .any all L := by rw [hr]; simp
    have hlt : z < L.size := by
      obtain ⟨_, o, ho, _⟩ := mem_ready.1 hrm
      rw [hn]; exact (Array.getElem?_eq_some_iff.1 ho).1
    have hm' : ∀ r, r < rg.length → memN (wrL K (L.setIfInBounds z true)) r = true := fun r hr => wrL_grow hlt (hm r hr)
    refine wpF.all hr (by simp) fun j hj => ?_
    simp only [List.mem_singleton] at hj; subst hj
    rw [wpOps_cons] at hk
    exact wpOp_mono (fun a' w' h' => ⟨vis_masked hV hm', tail_sound hV zs _ a' w' (by simpa using hn) h.2 hm' h'⟩) hk

theorem anyL_sound {E : Env} {T : Tab} (hT : TabOk E.P T) {all : Array Oper} (hsel : Region.noSelect all = true) {Q : Exit → Act → World → Prop} (hQ : PanicOk Q) {call : CallerP} (hc : CallerPOk E.P E.n all E.R E.im call) {oq : Orac} {N0 : Nums} (hoq : OracOk E.P E.n all N0 oq) {K : KW} {rg : List Rg} {fin : St → Prop} {Nf : Nums} (wf : World) (hV : Vis Nf rg wf) {z : Nat} {zs : List Nat} (hK : ∀ r, r < rg.length → memN (lookK K z) r = true) : ∀ (sch : Sch) (listed : Array Bool) {s : St} {N : Nums} {a : Act} {w : World},
    schPre all sch listed = true → tailOk all (z :: zs) (schEnd sch listed) = true → listed.size = all.size → anyO oq T E.n all K rg call fin sch s → Nf.le N → N0.le N → FrOk E.n N s.fr a → Sat E N s.rg w → Agree (wrL K listed) rg s.rg → rg.length ≤ s.rg.length →
    (∀ s' N' a' w', fin s' → N.le N' → FrOk E.n N' s'.fr a' → Sat E N' s'.rg w' → wpOps E.P all Q (z :: zs) a' w') → wpF E.P all Q (fun L => Vis Nf (maskRg (wrL K L) rg 0)) (sch.length + (zs.length + 1)) listed a w := by
  have emp : ∀ {l : List Nat}, l.isEmpty = true → l = [] := by intro l h; cases l <;> simp at h ⊢
  have see : ∀ (L : Array Bool) {N : Nums} {rg' : List Rg} {w : World}, Nf.le N → Agree (wrL K L) rg rg' → Sat E N rg' w → Vis Nf (maskRg (wrL K L) rg 0) w := fun L _ _ _ hN ha hS => vis_of_agree (hV.mask _) hN ha hS
  intro sch
  induction sch with
  | nil =>
    intro listed s N a w hs ht hn hg hN hN0 hf hS ha hl hk
    simp only [schEnd, tailOk, Bool.and_eq_true] at ht
    obtain ⟨hr, ht⟩ := ht
    have hr := only_spec hr
    have hrm : z ∈ Region.ready .any all listed := by rw [hr]; simp
    have hlt : z < listed.size := by
      obtain ⟨_, o, ho, _⟩ := mem_ready.1 hrm
      rw [hn]; exact (Array.getElem?_eq_some_iff.1 ho).1
    have hset : (listed.setIfInBounds z true).getD z false = true := by simp [hlt]
    have hall : ∀ r, r < rg.length → memN (wrL K (listed.setIfInBounds z true)) r = true := fun r hr => by
      obtain ⟨p, h1, h2, h3⟩ := lookK_mem (hK r hr)
      exact memN_flat.2 ⟨p, h1, by rw [h2]; exact hset, h3⟩
    have hk' := hk s N a w hg (Nums.le.refl N) hf hS
    rw [wpOps_cons] at hk'
    rw [List.length_nil, Nat.zero_add]
    refine wpF.all hr (by simp) fun j hj => ?_
    simp only [List.mem_singleton] at hj; subst hj
    exact wpOp_mono (fun a' w' h => ⟨vis_masked hV hall, tail_sound hV zs _ a' w' (by simpa using hn) ht hall h⟩) hk'
  | cons p r ih =>
    obtain ⟨i, q⟩ := p
    intro listed s N a w hs ht hn hg hN hN0 hf hS ha hl hk
    have hS0 := see listed hN ha hS
    cases q with
    | some blk =>
      simp only [schPre, Bool.and_eq_true] at hs
      rw [List.length_cons, Nat.add_right_comm]
      simp only [schEnd] at ht
      obtain ⟨⟨⟨⟨hr, hfree⟩, hclosed⟩, hwithin⟩, hs⟩ := hs
      simp only [anyO] at hg
      obtain ⟨hqk, hg⟩ := hg
      have hqk := quietK_spec hqk
      have hrm : i ∈ Region.ready .any all listed := by simpa using hr
      have hi0 : listed.getD i false = false := by
        have h1 := (mem_ready.1 hrm).1
        rcases Nat.lt_or_ge i listed.size with h' | h'
        · simp [h'] at h1 ⊢; exact h1
        · rw [Array.getD_eq_getD_getElem?, Array.getElem?_eq_none h']; rfl
      have same : ∀ (L : Array Bool) (r : Nat), memN (wrL K (L.setIfInBounds i true)) r = true ↔ memN (wrL K L) r = true := fun L r => by
        simp only [wrL, memN_flat]
        constructor
        · rintro ⟨p, h1, h2, h3⟩
          exact ⟨p, h1, by rwa [getD_set_ne false (fun e => hqk p h1 e.symm)] at h2, h3⟩
        · rintro ⟨p, h1, h2, h3⟩
          exact ⟨p, h1, by rwa [getD_set_ne false (fun e => hqk p h1 e.symm)], h3⟩
      split at hg
      · rename_i f hq
        obtain ⟨_, o, ho, _⟩ := mem_ready.1 hrm
        obtain ⟨hp, hg⟩ := hg
        -- whoever may have come up ahead of it is of blk
        have wide : ∀ {L' : Array Bool} {w' : World}, Up all i listed L' → Vis Nf (maskRg (wrL K L') rg 0) w' → Vis Nf (maskRg (flatK (memB blk) K) rg 0) w' := fun hup hv =>
          hv.more fun r hr => by
            obtain ⟨p, h1, h2, h3⟩ := memN_flat.1 hr
            exact memN_flat.2 ⟨p, h1, (hup.within hclosed hn hi0 hwithin).2.2 _ h2, h3⟩
        obtain ⟨v, hv, hfr⟩ := hoq _ i _ _ _ _ _ _ _ ho hq hp hN0 hf ((wide .here hS0).mono hN)
        refine wpF.take ho hsel hfree hr (fun c a w h => hQ c a o.dst v w h) (fun L w => ⟨fun h => h.more fun r hr => (same L r).1 hr, fun h => h.more fun r hr => (same L r).2 hr⟩) ?_ hS0
          (ih _ hs ht (by simpa using hn) hg hN hN0 hfr hS (fun r g hg hm => ha r g hg (by
            cases hx : memN (wrL K listed) r with
            | true => rw [(same listed r).2 hx] at hm; cases hm
            | false => rfl)) hl hk)
        rcases hv with ⟨hw, hrun⟩ | ⟨hw, rfl⟩
        · exact .inl ⟨hw, fun w ⟨L', hup, hw⟩ => hrun w ((wide hup hw).mono hN)⟩
        · exact .inr ⟨hw, rfl⟩
      · exact hg.elim
    | none =>
      simp only [schPre, Bool.and_eq_true] at hs
      rw [List.length_cons, Nat.add_right_comm]
      simp only [schEnd] at ht
      obtain ⟨hr, hs⟩ := hs
      have hr := only_spec hr
      have hrm : i ∈ Region.ready .any all listed := by rw [hr]; simp
      have hlt : i < listed.size := by
        obtain ⟨_, o, ho, _⟩ := mem_ready.1 hrm
        rw [hn]; exact (Array.getElem?_eq_some_iff.1 ho).1
      have hset : (listed.setIfInBounds i true).getD i false = true := by simp [hlt]
      have grow : ∀ r, memN (wrL K listed) r = true → memN (wrL K (listed.setIfInBounds i true)) r = true := fun r h => by
        obtain ⟨p, h1, h2, h3⟩ := memN_flat.1 h
        refine memN_flat.2 ⟨p, h1, ?_, h3⟩
        by_cases e : i = p.1
        · rw [← e]; exact hset
        · rw [getD_set_ne false e]; exact h2
      have own : ∀ k, memN (lookK K i) k = true → memN (wrL K (listed.setIfInBounds i true)) k = true := fun k hk => by
        obtain ⟨p, h1, h2, h3⟩ := lookK_mem hk
        exact memN_flat.2 ⟨p, h1, by rw [h2]; exact hset, h3⟩
      have ha1 : Agree (wrL K (listed.setIfInBounds i true)) rg s.rg := ha.mono fun r hr => by
        cases hx : memN (wrL K listed) r with
        | true => rw [grow r hx] at hr; cases hr
        | false => rfl
      simp only [anyO] at hg
      split at hg
      · rename_i f hq
        obtain ⟨_, o, ho, _⟩ := mem_ready.1 hrm
        obtain ⟨hp, hg⟩ := hg
        obtain ⟨v, hv, hfr⟩ := hoq _ i _ _ _ _ _ _ _ ho hq hp hN0 hf hS.vis
        refine wpF.all hr (by simp) fun j hj => ?_
        simp only [List.mem_singleton] at hj; subst hj
        unfold wpOp
        simp only [ho]
        have hnext := ih _ hs ht (by simpa using hn) hg hN hN0 hfr hS ha1 hl hk
        rcases hv with ⟨hw, hrun⟩ | ⟨hw, rfl⟩
        · rw [hw, if_pos rfl]
          exact .inl (wp_of_yields (.inl (hrun w hS.vis)) ⟨see _ hN ha1 hS, hnext⟩)
        · rw [hw]
          exact ⟨see _ hN ha1 hS, hnext⟩
      · split at hg
        · rename_i s1 he
          obtain ⟨hm, hg2⟩ := hg
          have hoi : ∃ o, all[i]? = some o := by
            cases ho : all[i]? with
            | some o => exact ⟨o, rfl⟩
            | none => unfold opE at he; rw [nth_eq] at he; simp [ho] at he
          obtain ⟨o, ho⟩ := hoi
          obtain ⟨hw, N', x, w', h1, h2, h3, h4⟩ := opE_sound hT ho he hf hS
          obtain ⟨ha', hl'⟩ := stepE_agree ha1 hl (by cases hst : stR s.fr all i with | some k => rw [hst] at hm; exact own k hm | none => rfl) he
          refine wpF.all hr (by simp) fun j hj => ?_
          simp only [List.mem_singleton] at hj; subst hj
          unfold wpOp
          simp only [ho, hw, if_true]
          exact .inl (wp_of_yields h2 ⟨see _ (hN.trans h1) ha' h4, ih _ hs ht (by simpa using hn) hg2 (hN.trans h1) (hN0.trans h1) h3 h4 ha' hl' (fun s2 N2 a2 w2 hs2 hN2 => hk s2 N2 a2 w2 hs2 (h1.trans hN2))⟩)
        · split at hg
          · rename_i s1 ws p he
            obtain ⟨hp, hm, hg2⟩ := hg
            obtain ⟨h1, o, ho, h2⟩ := hc _ _ _ _ _ he hp
            obtain ⟨hw, h3⟩ := h2 E N a w rfl rfl rfl rfl hf hS
            refine wpF.all hr (by simp) fun j hj => ?_
            simp only [List.mem_singleton] at hj; subst hj
            unfold wpOp
            simp only [ho, hw, if_true]
            refine .inl (h3 _ _ fun N' x w' hN' hf' hS' => ?_)
            have ha' : Agree (wrL K (listed.setIfInBounds j true)) rg s1.rg := fun r g hg hr => h1.agree r g (ha1 r g hg hr) (allN_spec hm r (by
              cases hx : memN (lookK K j) r with
              | true => rw [own r hx] at hr; cases hr
              | false => rfl))
            exact ⟨see _ (hN.trans hN') ha' hS', ih _ hs ht (by simpa using hn) hg2 (hN.trans hN') (hN0.trans hN') hf' hS' ha' (Nat.le_trans hl h1.len) (fun s2 N2 a2 w2 hs2 hN2 => hk s2 N2 a2 w2 hs2 (hN'.trans hN2))⟩
          · exact hg.elim


def allR : Nat → List Nat
  | 0 => []
  | n + 1 => n :: allR n
theorem memN_allR : ∀ {n r : Nat}, r < n → memN (allR n) r = true
  | n + 1, r, h => by
    simp only [allR, memN]
    by_cases e : n = r
    · subst e; simp
    · rw [memN_allR (by omega)]; simp

def drawnL (oq : Orac) (T : Tab) (n : Nat) (all : Array Oper) (call : CallerP) (fin : St → Prop) (z : Nat) (sch : Sch) (s : St) : Prop :=
  anyO oq T n all ((z, allR s.rg.length) :: dryO oq T n all call sch s) s.rg call fin sch s

theorem drawnL_sound {E : Env} {T : Tab} (hT : TabOk E.P T) {id : Nat} {all : Array Oper} {call : CallerP} (hc : CallerPOk E.P E.n all E.R E.im call) {oq : Orac} {N0 : Nums} (hoq : OracOk E.P E.n all N0 oq) {z : Nat} {zs : List Nat} {sch sch2 : Sch} (hok : anyOk all (sch ++ sch2) = true) (hz : tailOk all (z :: zs) (schEnd sch (Array.replicate all.size false)) = true) (hlz : sch2.length = zs.length + 1) {fin : St → Prop} {s : St} (hd : drawnL oq T E.n all call fin z sch s) {Q : Exit → Act → World → Prop} (hQ : PanicOk Q) {N : Nums} {a : Act} {w : World} (hN0 : N0.le N) (hf : FrOk E.n N s.fr a) (hS : Sat E N s.rg w)
    (hk : ∀ s' N' a' w', fin s' → N.le N' → FrOk E.n N' s'.fr a' → Sat E N' s'.rg w' → wpOps E.P all Q (z :: zs) a' w') : (Code.region id all true).wp E.P Q a w := by
  have hS' : Sat E N s.rg { w with drawn := w.drawn + 1 } := hS.drew
  simp only [anyOk, Bool.and_eq_true] at hok
  obtain ⟨⟨hn, hlen⟩, hsch⟩ := hok
  have hlen := Nat.eq_of_beq_eq_true hlen
  have := anyL_sound hT hn hQ hc hoq _ hS'.vis (z := z) (zs := zs) (fun r hr => by simp only [lookK, Nat.beq_refl, cond_true]; exact memN_allR hr) sch _ (schPre_of sch _ hsch) hz (by simp) hd (Nums.le.refl N) hN0 hf hS' (fun r g hg _ => hg) (Nat.le_refl _) hk
  rw [List.length_append, hlz] at hlen
  rw [hlen] at this
  exact wp_region_any hT.mixed this.any

/-- a region that draws its order, but for its last operations -/
theorem X.drawnL {P : Program} {fn : Func} {R : Ending → World → Prop} {W : World} {O : Nat → Nat → Prop} {im : Nat → Nat → Option Value} {D : Nat → Nat → Prop} {Rr : World → Prop} {N : Nums} {B : SchT} {T : Tab} (hT : TabOk P T) {id : Nat} {ops : Array Oper} {k : List It} {s : St} (call : CallerP) (ora : Nat → Fr → Option (Fr × Prop)) (z : Nat) (zs : List Nat) {sch1 : Sch} (j : Nat)
    (hl : lookS B id = some sch1) (hz : tailOk ops (z :: zs) (schEnd (sch1.take j) (Array.replicate ops.size false)) = true) (hj : (sch1.drop j).length = zs.length + 1) (hc : CallerPOk P fn.ntmps ops Rr im call) (ho : OracOk P fn.ntmps ops N (fun _ => ora)) (n : Nat) (hn : fn.ntmps = n) (h : Eng.drawnL (oracQ ora T n ops) T n ops call (fun s' => X (mkE P fn R W O im D Rr N B) (.ops ops (z :: zs) :: k) s') z (sch1.take j) s) : X (mkE P fn R W O im D Rr N B) (.code (.region id ops true) :: k) s := by
  subst hn
  intro N' a w hN hf hS
  show _ → Code.wp _ _ _ _ _
  intro hreg
  simp only [regsB, hl] at hreg
  rw [← List.take_append_drop j sch1] at hreg
  exact drawnL_sound (E := (mkE P fn R W O im D Rr N B).toEnv) hT hc (oracQ_ok hT ho) hreg hz hj h (PanicOk.sem (fun _ _ d _ _ h => by cases d <;> exact h) k) hN hf hS (fun s2 N2 a2 w2 h hN2 hf2 hS2 => h N2 a2 w2 (hN.trans hN2) hf2 hS2)

end Go.Eng
