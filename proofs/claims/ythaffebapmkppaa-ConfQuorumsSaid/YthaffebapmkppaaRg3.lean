/- The symbolic executor, part 32: regions that draw their order, of which two orders are gone through. -/
import Derived.Test.YthaffebapmkppaaRg2

namespace Go.Eng
open Go

/-- the orders that are gone through -/
inductive STree where
  | nil
  | q (i : Nat) (blk : List Nat) (r : STree)
  | one (i : Nat) (r : STree)
  | two (i j : Nat) (x y : STree)

def only2 (l : List Nat) (i j : Nat) : Bool := match l with
  | [a, b] => (Nat.beq a i && Nat.beq b j) || (Nat.beq a j && Nat.beq b i)
  | _ => false
theorem only2_spec {l : List Nat} {i j : Nat} (h : only2 l i j = true) : l = [i, j] ∨ l = [j, i] := by
  unfold only2 at h
  split at h
  · simp only [Bool.or_eq_true, Bool.and_eq_true] at h
    rcases h with ⟨h1, h2⟩ | ⟨h1, h2⟩
    · exact .inl (by rw [Nat.eq_of_beq_eq_true h1, Nat.eq_of_beq_eq_true h2])
    · exact .inr (by rw [Nat.eq_of_beq_eq_true h1, Nat.eq_of_beq_eq_true h2])
  · cases h

def treeOk (ops : Array Oper) : STree → Nat → Array Bool → Bool
  | .nil, m, L => Nat.beq m 0 && (Region.ready .any ops L).isEmpty
  | .q i blk r, m, L => match m with
    | 0 => false
    | m + 1 => (Region.ready .any ops L).contains i && Region.free .any ops L i && closedB ops i blk && withinB L ops.size blk && treeOk ops r m (L.setIfInBounds i true)
  | .one i r, m, L => match m with
    | 0 => false
    | m + 1 => only (Region.ready .any ops L) i && treeOk ops r m (L.setIfInBounds i true)
  | .two i j x y, m, L => match m with
    | 0 => false
    | m + 1 => only2 (Region.ready .any ops L) i j && treeOk ops x m (L.setIfInBounds i true) && treeOk ops y m (L.setIfInBounds j true)

def prL (pr : Owe → Prop) : List Owe → Prop → Prop
  | [], p => p
  | o :: os, p => pr o ∧ prL pr os p
theorem prL_spec {pr : Owe → Prop} : ∀ {os : List Owe} {p : Prop}, prL pr os p → (∀ q ∈ os, pr q) ∧ p
  | [], _, h => ⟨fun _ h => absurd h List.not_mem_nil, h⟩
  | o :: os, p, ⟨h1, h2⟩ => by
    obtain ⟨h3, h4⟩ := prL_spec h2
    exact ⟨fun q hq => by rcases List.mem_cons.1 hq with rfl | h; exact h1; exact h3 q h, h4⟩

/-- one operation, and what is behind it -/
def stepT (pr : Owe → Prop) (td : List (Nat × SV)) (T : Tab) (n : Nat) (all : Array Oper) (K : KW) (i : Nat) (c : St → Prop) (s : St) : Prop :=
  match qP td T n all s.rg i s.fr with
  | some (f, o) => prL pr o (c ⟨f, s.rg⟩)
  | none => match opE T n all i s with
    | some s' => (match stR s.fr all i with | some k => memN (lookK K i) k | none => true) = true ∧ c s'
    | none => match pcall td n all i s.fr with
      | some (f, gk, g, l, v) => pr (.call s.rg gk g l v) ∧ c ⟨f, s.rg⟩
      | none => False

def anyT (pr : Owe → Prop) (fin : St → Prop) (td : List (Nat × SV)) (T : Tab) (n : Nat) (all : Array Oper) (K : KW) (rg : List Rg) : STree → St → Prop
  | .nil, s => fin s
  | .q i blk r, s => quietK K i = true ∧ match qP td T n all (maskRg (flatK (memB blk) K) rg 0) i s.fr with
    | some (f, o) => prL pr o (anyT pr fin td T n all K rg r ⟨f, s.rg⟩)
    | none => False
  | .one i r, s => stepT pr td T n all K i (fun s' => anyT pr fin td T n all K rg r s') s
  | .two i j x y, s => stepT pr td T n all K i (fun s' => anyT pr fin td T n all K rg x s') s ∧ stepT pr td T n all K j (fun s' => anyT pr fin td T n all K rg y s') s

/-- what is written, and by which -/
def dryT (td : List (Nat × SV)) (T : Tab) (n : Nat) (all : Array Oper) : STree → St → KW
  | .nil, _ => []
  | .q i _ r, s => match qP td T n all s.rg i s.fr with
    | some (f, _) => dryT td T n all r ⟨f, s.rg⟩
    | none => []
  | .one i r, s => match qP td T n all s.rg i s.fr with
    | some (f, _) => dryT td T n all r ⟨f, s.rg⟩
    | none => match opE T n all i s with
      | some s' => match stR s.fr all i with
        | some k => (i, [k]) :: dryT td T n all r s'
        | none => dryT td T n all r s'
      | none => match pcall td n all i s.fr with
        | some (f, _) => dryT td T n all r ⟨f, s.rg⟩
        | none => []
  | .two i _ x _, s => match qP td T n all s.rg i s.fr with
    | some (f, _) => dryT td T n all x ⟨f, s.rg⟩
    | none => match opE T n all i s with
      | some s' => match stR s.fr all i with
        | some k => (i, [k]) :: dryT td T n all x s'
        | none => dryT td T n all x s'
      | none => match pcall td n all i s.fr with
        | some (f, _) => dryT td T n all x ⟨f, s.rg⟩
        | none => []

theorem anyT_sound {E : Env} {T : Tab} (hT : TabOk E.P T) {td : List (Nat × SV)} {all : Array Oper} (hsel : Region.noSelect all = true) {Q : Exit → Act → World → Prop} (hQ : PanicOk Q) {N0 : Nums} {K : KW} {rg : List Rg} {fin : St → Prop} {Nf : Nums} (wf : World) (hV : Vis Nf rg wf) : ∀ (t : STree) (m : Nat) (listed : Array Bool) {s : St} {N : Nums} {a : Act} {w : World},
    treeOk all t m listed = true → listed.size = all.size → anyT (Owe.Ok E N0) fin td T E.n all K rg t s → Nf.le N → N0.le N → FrOk E.n N s.fr a → Sat E N s.rg w → Agree (wrL K listed) rg s.rg → rg.length ≤ s.rg.length →
    (∀ s' N' a' w', fin s' → N.le N' → FrOk E.n N' s'.fr a' → Sat E N' s'.rg w' → Q .normal a' w') → wpF E.P all Q (fun L => VI E.im Nf (maskRg (wrL K L) rg 0)) m listed a w := by
  have emp : ∀ {l : List Nat}, l.isEmpty = true → l = [] := by intro l h; cases l <;> simp at h ⊢
  have see : ∀ (L : Array Bool) {N : Nums} {rg' : List Rg} {w : World}, Nf.le N → Agree (wrL K L) rg rg' → Sat E N rg' w → VI E.im Nf (maskRg (wrL K L) rg 0) w := fun L _ _ _ hN ha hS => ⟨vis_of_agree (hV.mask _) hN ha hS, hS.imm⟩
  -- one operation that is ready
  have step : ∀ (m : Nat) (listed : Array Bool) (i : Nat) (c : St → Prop) {s : St} {N : Nums} {a : Act} {w : World}, i ∈ Region.ready .any all listed → listed.size = all.size → stepT (Owe.Ok E N0) td T E.n all K i c s → Nf.le N → N0.le N → FrOk E.n N s.fr a → Sat E N s.rg w → Agree (wrL K listed) rg s.rg → rg.length ≤ s.rg.length →
      (∀ s' N' a' w', c s' → N.le N' → FrOk E.n N' s'.fr a' → Sat E N' s'.rg w' → Agree (wrL K (listed.setIfInBounds i true)) rg s'.rg → rg.length ≤ s'.rg.length → wpF E.P all Q (fun L => VI E.im Nf (maskRg (wrL K L) rg 0)) m (listed.setIfInBounds i true) a' w') →
      wpOp E.P all Q i (fun a' w' => VI E.im Nf (maskRg (wrL K (listed.setIfInBounds i true)) rg 0) w' ∧ wpF E.P all Q (fun L => VI E.im Nf (maskRg (wrL K L) rg 0)) m (listed.setIfInBounds i true) a' w') a w := by
    intro m listed i c s N a w hrm hn hg hN hN0 hf hS ha hl hk
    have hlt : i < listed.size := by
      obtain ⟨_, o, ho, _⟩ := mem_ready.1 hrm
      rw [hn]; exact (Array.getElem?_eq_some_iff.1 ho).1
    have hset : (listed.setIfInBounds i true).getD i false = true := by simp [hlt]
    have grow : ∀ r, memN (wrL K listed) r = true → memN (wrL K (listed.setIfInBounds i true)) r = true := fun r h => by
      obtain ⟨p, h1, h2, h3⟩ := memN_flat.1 h
      refine memN_flat.2 ⟨p, h1, ?_, h3⟩
      by_cases e : i = p.1
      · rw [← e]; exact hset
      · rw [getD_set_ne false e]; exact h2
    have own : ∀ k, memN (lookK K i) k = true → memN (wrL K (listed.setIfInBounds i true)) k = true := fun k hk => by
      obtain ⟨p, h1, h2, h3⟩ := lookK_mem hk
      exact memN_flat.2 ⟨p, h1, by rw [h2]; exact hset, h3⟩
    have ha1 : Agree (wrL K (listed.setIfInBounds i true)) rg s.rg := ha.mono fun r hr => by
      cases hx : memN (wrL K listed) r with
      | true => rw [grow r hx] at hr; cases hr
      | false => rfl
    obtain ⟨_, o, ho, _⟩ := mem_ready.1 hrm
    unfold stepT at hg
    unfold wpOp
    simp only [ho]
    split at hg
    · rename_i f ob hq
      obtain ⟨hob, hg⟩ := prL_spec hg
      obtain ⟨v, hv, hfr⟩ := qP_sound hT ho hq hob hN0 hf hS.vi
      have hnext := hk _ N _ w hg (Nums.le.refl N) hfr hS ha1 hl
      rcases hv with ⟨hw, hrun⟩ | ⟨hw, rfl⟩
      · rw [hw, if_pos rfl]
        exact .inl (wp_of_yields (.inl (hrun w hS.vi)) ⟨see _ hN ha1 hS, hnext⟩)
      · rw [hw]
        exact ⟨see _ hN ha1 hS, hnext⟩
    · split at hg
      · rename_i s1 he
        obtain ⟨hmk, hg2⟩ := hg
        obtain ⟨hw, N', x, w', hN', hy, hf', hS'⟩ := opE_sound hT (by simpa using ho) he hf hS
        have ha2 := stepE_agree (ks := wrL K (listed.setIfInBounds i true)) ha1 hl (by
          split
          · rename_i k hk'
            rw [hk'] at hmk
            exact own k hmk
          · rfl) he
        rw [hw, if_pos rfl]
        exact .inl (wp_of_yields hy ⟨see _ (hN.trans hN') ha2.1 hS', hk _ N' _ _ hg2 hN' hf' hS' ha2.1 ha2.2⟩)
      · split at hg
        · rename_i f gk g l v hpc
          obtain ⟨hob, hg⟩ := hg
          rcases pcall_sound ho hpc hob hN0 hf hS with ⟨hw, hx⟩ | ⟨hw, hf'⟩
          · rw [hw, if_pos rfl]
            exact .inl (hx _ _ fun x w' hf' hS' => ⟨see _ hN ha1 hS', hk _ N _ w' hg (Nums.le.refl N) hf' hS' ha1 hl⟩)
          · rw [hw]
            exact ⟨see _ hN ha1 hS, hk _ N _ w hg (Nums.le.refl N) hf' hS ha1 hl⟩
        · exact hg.elim
  intro t
  induction t with
  | nil =>
    intro m listed s N a w hs hn hg hN hN0 hf hS ha hl hk
    simp only [treeOk, Bool.and_eq_true] at hs
    obtain rfl := Nat.eq_of_beq_eq_true hs.1
    exact wpF.done (emp hs.2) (hk s N a w hg (Nums.le.refl N) hf hS)
  | q i blk r ih =>
    intro m listed s N a w hs hn hg hN hN0 hf hS ha hl hk
    cases m with
    | zero => simp [treeOk] at hs
    | succ m =>
      have hS0 := see listed hN ha hS
      simp only [treeOk, Bool.and_eq_true] at hs
      obtain ⟨⟨⟨⟨hr, hfree⟩, hclosed⟩, hwithin⟩, hs⟩ := hs
      simp only [anyT] at hg
      obtain ⟨hqk, hg⟩ := hg
      have hqk := quietK_spec hqk
      have hrm : i ∈ Region.ready .any all listed := by simpa using hr
      have hi0 : listed.getD i false = false := by
        have h1 := (mem_ready.1 hrm).1
        rcases Nat.lt_or_ge i listed.size with h' | h'
        · simp [h'] at h1 ⊢; exact h1
        · rw [Array.getD_eq_getD_getElem?, Array.getElem?_eq_none h']; rfl
      have same : ∀ (L : Array Bool) (r : Nat), memN (wrL K (L.setIfInBounds i true)) r = true ↔ memN (wrL K L) r = true := fun L r => by
        simp only [wrL, memN_flat]
        constructor
        · rintro ⟨p, h1, h2, h3⟩
          exact ⟨p, h1, by rwa [getD_set_ne false (fun e => hqk p h1 e.symm)] at h2, h3⟩
        · rintro ⟨p, h1, h2, h3⟩
          exact ⟨p, h1, by rwa [getD_set_ne false (fun e => hqk p h1 e.symm)], h3⟩
      split at hg
      · rename_i f ob hq
        obtain ⟨_, o, ho, _⟩ := mem_ready.1 hrm
        obtain ⟨hob, hg⟩ := prL_spec hg
        have wide : ∀ {L' : Array Bool} {w' : World}, Up all i listed L' → VI E.im Nf (maskRg (wrL K L') rg 0) w' → VI E.im Nf (maskRg (flatK (memB blk) K) rg 0) w' := fun hup hv =>
          ⟨hv.1.more fun r hr => by
            obtain ⟨p, h1, h2, h3⟩ := memN_flat.1 hr
            exact memN_flat.2 ⟨p, h1, (hup.within hclosed hn hi0 hwithin).2.2 _ h2, h3⟩, hv.2⟩
        obtain ⟨v, hv, hfr⟩ := qP_sound hT ho hq hob hN0 hf ((wide .here hS0).mono hN)
        refine wpF.take (S := fun L => VI E.im Nf (maskRg (wrL K L) rg 0)) ho hsel hfree hr (fun c a w h => hQ c a o.dst v w h) (fun L w => ⟨fun h => ⟨h.1.more fun r hr => (same L r).1 hr, h.2⟩, fun h => ⟨h.1.more fun r hr => (same L r).2 hr, h.2⟩⟩) ?_ hS0
          (ih m _ hs (by simpa using hn) hg hN hN0 hfr hS (fun r g hg hm => ha r g hg (by
            cases hx : memN (wrL K listed) r with
            | true => rw [(same listed r).2 hx] at hm; cases hm
            | false => rfl)) hl hk)
        rcases hv with ⟨hw, hrun⟩ | ⟨hw, rfl⟩
        · exact .inl ⟨hw, fun w ⟨L', hup, hw⟩ => hrun w ((wide hup hw).mono hN)⟩
        · exact .inr ⟨hw, rfl⟩
      · exact hg.elim
  | one i r ih =>
    intro m listed s N a w hs hn hg hN hN0 hf hS ha hl hk
    cases m with
    | zero => simp [treeOk] at hs
    | succ m =>
      simp only [treeOk, Bool.and_eq_true] at hs
      have hr := only_spec hs.1
      refine wpF.all hr (by simp) fun j hj => ?_
      simp only [List.mem_singleton] at hj; subst hj
      refine step m listed j _ (by rw [hr]; simp) hn hg hN hN0 hf hS ha hl fun s' N' a' w' hc hN' hf' hS' ha' hl' => ?_
      exact ih m _ hs.2 (by simpa using hn) hc (hN.trans hN') (hN0.trans hN') hf' hS' ha' hl' fun s2 N2 a2 w2 h1 h2 => hk s2 N2 a2 w2 h1 (hN'.trans h2)
  | two i j x y ihx ihy =>
    intro m listed s N a w hs hn hg hN hN0 hf hS ha hl hk
    cases m with
    | zero => simp [treeOk] at hs
    | succ m =>
      simp only [treeOk, Bool.and_eq_true] at hs
      obtain ⟨⟨h2, hx⟩, hy⟩ := hs
      have hr := only2_spec h2
      have hmi : i ∈ Region.ready .any all listed := by rcases hr with h | h <;> rw [h] <;> simp
      have hmj : j ∈ Region.ready .any all listed := by rcases hr with h | h <;> rw [h] <;> simp
      have si := step m listed i _ hmi hn hg.1 hN hN0 hf hS ha hl fun s' N' a' w' hc hN' hf' hS' ha' hl' => ihx m _ hx (by simpa using hn) hc (hN.trans hN') (hN0.trans hN') hf' hS' ha' hl' fun s2 N2 a2 w2 h1 h2 => hk s2 N2 a2 w2 h1 (hN'.trans h2)
      have sj := step m listed j _ hmj hn hg.2 hN hN0 hf hS ha hl fun s' N' a' w' hc hN' hf' hS' ha' hl' => ihy m _ hy (by simpa using hn) hc (hN.trans hN') (hN0.trans hN') hf' hS' ha' hl' fun s2 N2 a2 w2 h1 h2 => hk s2 N2 a2 w2 h1 (hN'.trans h2)
      rcases hr with h | h
      · exact wpF.all h (by simp) fun q hq => by
          simp only [List.mem_cons, List.not_mem_nil, or_false] at hq
          rcases hq with rfl | rfl
          · exact si
          · exact sj
      · exact wpF.all h (by simp) fun q hq => by
          simp only [List.mem_cons, List.not_mem_nil, or_false] at hq
          rcases hq with rfl | rfl
          · exact sj
          · exact si

/-- a region that draws its order, along such a tree; what is told of calls and values is to be shown -/
theorem X.goT {P : Program} {fn : Func} {R : Ending → World → Prop} {W : World} {O : Nat → Nat → Prop} {im : Nat → Nat → Option Value} {D : Nat → Nat → Prop} {Rr : World → Prop} {N0 : Nums} {B : SchT} {T : Tab} (td : List (Nat × SV)) (hT : TabOk P T) (t : STree) (n : Nat) {id : Nat} {ops : Array Oper} {k : List It} {s : St}
    (hn : fn.ntmps = n) (hsel : Region.noSelect ops = true) (ht : treeOk ops t ops.size (Array.replicate ops.size false) = true)
    (h : ∀ (pr : Owe → Prop) (fin : St → Prop), (∀ q : Owe, q.Ok (mkE P fn R W O im D Rr N0 B).toEnv N0 → pr q) → (∀ s', X (mkE P fn R W O im D Rr N0 B) k s' → fin s') → anyT pr fin td T n ops (dryT td T n ops t s) s.rg t s) : X (mkE P fn R W O im D Rr N0 B) (.code (.region id ops true) :: k) s := by
  subst hn
  intro N a w hN hf hS
  show _ → Code.wp _ _ _ _ _
  intro _
  have hg := h (Owe.Ok (mkE P fn R W O im D Rr N0 B).toEnv N0) (fun s' => X (mkE P fn R W O im D Rr N0 B) k s') (fun _ h => h) (fun _ h => h)
  have hS' : Sat (mkE P fn R W O im D Rr N0 B).toEnv N s.rg { w with drawn := w.drawn + 1 } := hS.drew
  have hwf := anyT_sound (E := (mkE P fn R W O im D Rr N0 B).toEnv) hT hsel (PanicOk.sem (fun _ _ d _ _ h => by cases d <;> exact h) k) _ hS'.vis t _ _ ht (by simp) hg (Nums.le.refl N) hN hf hS' (fun r g hg _ => hg) (Nat.le_refl _) (fun s' N' a' w' h1 h2 h3 h4 => h1 N' a' w' (hN.trans h2) h3 h4)
  exact wp_region_any hT.mixed hwf.any

end Go.Eng
