import Derived.Test.YthaffebapmkppaaGreatRg2
import Derived.Conc.LoneSelectN
import Derived.Test.YthaffebapmkppaaGreatTab
import Derived.Test.YthaffebapmkppaaGreatEC
import Derived.Sort.Defs

namespace Go.Eng
open Go
inductive STree where
  | nil
  | q (i : Nat) (blk : List Nat) (r : STree)
  | one (i : Nat) (r : STree)
  | two (i j : Nat) (x y : STree)
def only2 (l : List Nat) (i j : Nat) : Bool := match l with
  | [a, b] => (Nat.beq a i && Nat.beq b j) || (Nat.beq a j && Nat.beq b i)
  | _ => false
theorem only2_spec {l : List Nat} {i j : Nat} (h : only2 l i j = true) : l = [i, j] ∨ l = [j, i] := by
  unfold only2 at h
  split at h
  · simp only [Bool.or_eq_true, Bool.and_eq_true] at h
    rcases h with ⟨h1, h2⟩ | ⟨h1, h2⟩
    · exact .inl (by rw [Nat.eq_of_beq_eq_true h1, Nat.eq_of_beq_eq_true h2])
    · exact .inr (by rw [Nat.eq_of_beq_eq_true h1, Nat.eq_of_beq_eq_true h2])
  · cases h
def treeOk (ops : Array Oper) : STree → Nat → Array Bool → Bool
  | .nil, m, L => Nat.beq m 0 && (Region.ready .any ops L).isEmpty
  | .q i blk r, m, L => match m with
    | 0 => false
    | m + 1 => (Region.ready .any ops L).contains i && Region.free .any ops L i && closedB ops i blk && withinB L ops.size blk && treeOk ops r m (L.setIfInBounds i true)
  | .one i r, m, L => match m with
    | 0 => false
    | m + 1 => only (Region.ready .any ops L) i && treeOk ops r m (L.setIfInBounds i true)
  | .two i j x y, m, L => match m with
    | 0 => false
    | m + 1 => only2 (Region.ready .any ops L) i j && treeOk ops x m (L.setIfInBounds i true) && treeOk ops y m (L.setIfInBounds j true)
def prL (pr : Owe → Prop) : List Owe → Prop → Prop
  | [], p => p
  | o :: os, p => pr o ∧ prL pr os p
theorem prL_spec {pr : Owe → Prop} : ∀ {os : List Owe} {p : Prop}, prL pr os p → (∀ q ∈ os, pr q) ∧ p
  | [], _, h => ⟨fun _ h => absurd h List.not_mem_nil, h⟩
  | o :: os, p, ⟨h1, h2⟩ => by
    obtain ⟨h3, h4⟩ := prL_spec h2
    exact ⟨fun q hq => by rcases List.mem_cons.1 hq with rfl | h; exact h1; exact h3 q h, h4⟩
def stepT (pr : Owe → Prop) (td : List (Nat × SV)) (T : Tab) (n : Nat) (all : Array Oper) (K : KW) (i : Nat) (c : St → Prop) (s : St) : Prop :=
  match qP td T n all s.rg i s.fr with
  | some (f, o) => prL pr o (c ⟨f, s.rg⟩)
  | none => match opE T n all i s with
    | some s' => (match stR s.fr all i with | some k => memN (lookK K i) k | none => true) = true ∧ c s'
    | none => match pcall td n all i s.fr with
      | some (f, gk, g, l, v) => pr (.call s.rg gk g l v) ∧ c ⟨f, s.rg⟩
      | none => False
def anyT (pr : Owe → Prop) (fin : St → Prop) (td : List (Nat × SV)) (T : Tab) (n : Nat) (all : Array Oper) (K : KW) (rg : List Rg) : STree → St → Prop
  | .nil, s => fin s
  | .q i blk r, s => quietK K i = true ∧ match qP td T n all (maskRg (flatK (memB blk) K) rg 0) i s.fr with
    | some (f, o) => prL pr o (anyT pr fin td T n all K rg r ⟨f, s.rg⟩)
    | none => False
  | .one i r, s => stepT pr td T n all K i (fun s' => anyT pr fin td T n all K rg r s') s
  | .two i j x y, s => stepT pr td T n all K i (fun s' => anyT pr fin td T n all K rg x s') s ∧ stepT pr td T n all K j (fun s' => anyT pr fin td T n all K rg y s') s
def dryT (td : List (Nat × SV)) (T : Tab) (n : Nat) (all : Array Oper) : STree → St → KW
  | .nil, _ => []
  | .q i _ r, s => match qP td T n all s.rg i s.fr with
    | some (f, _) => dryT td T n all r ⟨f, s.rg⟩
    | none => []
  | .one i r, s => match qP td T n all s.rg i s.fr with
    | some (f, _) => dryT td T n all r ⟨f, s.rg⟩
    | none => match opE T n all i s with
      | some s' => match stR s.fr all i with
        | some k => (i, [k]) :: dryT td T n all r s'
        | none => dryT td T n all r s'
      | none => match pcall td n all i s.fr with
        | some (f, _) => dryT td T n all r ⟨f, s.rg⟩
        | none => []
  | .two i _ x _, s => match qP td T n all s.rg i s.fr with
    | some (f, _) => dryT td T n all x ⟨f, s.rg⟩
    | none => match opE T n all i s with
      | some s' => match stR s.fr all i with
        | some k => (i, [k]) :: dryT td T n all x s'
        | none => dryT td T n all x s'
      | none => match pcall td n all i s.fr with
        | some (f, _) => dryT td T n all x ⟨f, s.rg⟩
        | none => []
theorem anyT_sound {E : Env} {T : Tab} (hT : TabOk E.P T) {td : List (Nat × SV)} {all : Array Oper} (hsel : Region.noSelect all = true) {Q : Exit → Act → World → Prop} (hQ : PanicOk Q) {N0 : Nums} {K : KW} {rg : List Rg} {fin : St → Prop} {Nf : Nums} (wf : World) (hV : Vis Nf rg wf) : ∀ (t : STree) (m : Nat) (listed : Array Bool) {s : St} {N : Nums} {a : Act} {w : World},
    treeOk all t m listed = true → listed.size = all.size → anyT (Owe.Ok E N0) fin td T E.n all K rg t s → Nf.le N → N0.le N → FrOk E.n N s.fr a → Sat E N s.rg w → Agree (wrL K listed) rg s.rg → rg.length ≤ s.rg.length →
    (∀ s' N' a' w', fin s' → N.le N' → FrOk E.n N' s'.fr a' → Sat E N' s'.rg w' → Q .normal a' w') → wpF E.P all Q (fun L => VI E.im Nf (maskRg (wrL K L) rg 0)) m listed a w := by
  have emp : ∀ {l : List Nat}, l.isEmpty = true → l = [] := by intro l h; cases l <;> simp at h ⊢
  have see : ∀ (L : Array Bool) {N : Nums} {rg' : List Rg} {w : World}, Nf.le N → Agree (wrL K L) rg rg' → Sat E N rg' w → VI E.im Nf (maskRg (wrL K L) rg 0) w := fun L _ _ _ hN ha hS => ⟨vis_of_agree (hV.mask _) hN ha hS, hS.imm⟩
  -- one operation that is ready
  have step : ∀ (m : Nat) (listed : Array Bool) (i : Nat) (c : St → Prop) {s : St} {N : Nums} {a : Act} {w : World}, i ∈ Region.ready .any all listed → listed.size = all.size → stepT (Owe.Ok E N0) td T E.n all K i c s → Nf.le N → N0.le N → FrOk E.n N s.fr a → Sat E N s.rg w → Agree (wrL K listed) rg s.rg → rg.length ≤ s.rg.length →
      (∀ s' N' a' w', c s' → N.le N' → FrOk E.n N' s'.fr a' → Sat E N' s'.rg w' → Agree (wrL K (listed.setIfInBounds i true)) rg s'.rg → rg.length ≤ s'.rg.length → wpF E.P all Q (fun L => VI E.im Nf (maskRg (wrL K L) rg 0)) m (listed.setIfInBounds i true) a' w') →
      wpOp E.P all Q i (fun a' w' => VI E.im Nf (maskRg (wrL K (listed.setIfInBounds i true)) rg 0) w' ∧ wpF E.P all Q (fun L => VI E.im Nf (maskRg (wrL K L) rg 0)) m (listed.setIfInBounds i true) a' w') a w := by
    intro m listed i c s N a w hrm hn hg hN hN0 hf hS ha hl hk
    have hlt : i < listed.size := by
      obtain ⟨_, o, ho, _⟩ := mem_ready.1 hrm
      rw [hn]; exact (Array.getElem?_eq_some_iff.1 ho).1
    have hset : (listed.setIfInBounds i true).getD i false = true := by simp [hlt]
    have grow : ∀ r, memN (wrL K listed) r = true → memN (wrL K (listed.setIfInBounds i true)) r = true := fun r h => by
      obtain ⟨p, h1, h2, h3⟩ := memN_flat.1 h
      refine memN_flat.2 ⟨p, h1, ?_, h3⟩
      by_cases e : i = p.1
      · rw [← e]; exact hset
      · rw [getD_set_ne false e]; exact h2
    have own : ∀ k, memN (lookK K i) k = true → memN (wrL K (listed.setIfInBounds i true)) k = true := fun k hk => by
      obtain ⟨p, h1, h2, h3⟩ := lookK_mem hk
      exact memN_flat.2 ⟨p, h1, by rw [h2]; exact hset, h3⟩
    have ha1 : Agree (wrL K (listed.setIfInBounds i true)) rg s.rg := ha.mono fun r hr => by
      cases hx : memN (wrL K listed) r with
      | true => rw [grow r hx] at hr; cases hr
      | false => rfl
    obtain ⟨_, o, ho, _⟩ := mem_ready.1 hrm
    unfold stepT at hg
    unfold wpOp
    simp only [ho]
    split at hg
    · rename_i f ob hq
      obtain ⟨hob, hg⟩ := prL_spec hg
      obtain ⟨v, hv, hfr⟩ := qP_sound hT ho hq hob hN0 hf hS.vi
      have hnext := hk _ N _ w hg (Nums.le.refl N) hfr hS ha1 hl
      rcases hv with ⟨hw, hrun⟩ | ⟨hw, rfl⟩
      · rw [hw, if_pos rfl]
        exact .inl (wp_of_yields (.inl (hrun w hS.vi)) ⟨see _ hN ha1 hS, hnext⟩)
      · rw [hw]
        exact ⟨see _ hN ha1 hS, hnext⟩
    · split at hg
      · rename_i s1 he
        obtain ⟨hmk, hg2⟩ := hg
        obtain ⟨hw, N', x, w', hN', hy, hf', hS'⟩ := opE_sound hT (by simpa using ho) he hf hS
        have ha2 := stepE_agree (ks := wrL K (listed.setIfInBounds i true)) ha1 hl (by
          split
          · rename_i k hk'
            rw [hk'] at hmk
            exact own k hmk
          · rfl) he
        rw [hw, if_pos rfl]
        exact .inl (wp_of_yields hy ⟨see _ (hN.trans hN') ha2.1 hS', hk _ N' _ _ hg2 hN' hf' hS' ha2.1 ha2.2⟩)
      · split at hg
        · rename_i f gk g l v hpc
          obtain ⟨hob, hg⟩ := hg
          rcases pcall_sound ho hpc hob hN0 hf hS with ⟨hw, hx⟩ | ⟨hw, hf'⟩
          · rw [hw, if_pos rfl]
            exact .inl (hx _ _ fun x w' hf' hS' => ⟨see _ hN ha1 hS', hk _ N _ w' hg (Nums.le.refl N) hf' hS' ha1 hl⟩)
          · rw [hw]
            exact ⟨see _ hN ha1 hS, hk _ N _ w hg (Nums.le.refl N) hf' hS ha1 hl⟩
        · exact hg.elim
  intro t
  induction t with
  | nil =>
    intro m listed s N a w hs hn hg hN hN0 hf hS ha hl hk
    simp only [treeOk, Bool.and_eq_true] at hs
    obtain rfl := Nat.eq_of_beq_eq_true hs.1
    exact wpF.done (emp hs.2) (hk s N a w hg (Nums.le.refl N) hf hS)
  | q i blk r ih =>
    intro m listed s N a w hs hn hg hN hN0 hf hS ha hl hk
    cases m with
    | zero => simp [treeOk] at hs
    | succ m =>
      have hS0 := see listed hN ha hS
      simp only [treeOk, Bool.and_eq_true] at hs
      obtain ⟨⟨⟨⟨hr, hfree⟩, hclosed⟩, hwithin⟩, hs⟩ := hs
      simp only [anyT] at hg
      obtain ⟨hqk, hg⟩ := hg
      have hqk := quietK_spec hqk
      have hrm : i ∈ Region.ready .any all listed := by simpa using hr
      have hi0 : listed.getD i false = false := by
        have h1 := (mem_ready.1 hrm).1
        rcases Nat.lt_or_ge i listed.size with h' | h'
        · simp [h'] at h1 ⊢; exact h1
        · rw [Array.getD_eq_getD_getElem?, Array.getElem?_eq_none h']; rfl
      have same : ∀ (L : Array Bool) (r : Nat), memN (wrL K (L.setIfInBounds i true)) r = true ↔ memN (wrL K L) r = true := fun L r => by
        simp only [wrL, memN_flat]
        constructor
        · rintro ⟨p, h1, h2, h3⟩
          exact ⟨p, h1, by rwa [getD_set_ne false (fun e => hqk p h1 e.symm)] at h2, h3⟩
        · rintro ⟨p, h1, h2, h3⟩
          exact ⟨p, h1, by rwa [getD_set_ne false (fun e => hqk p h1 e.symm)], h3⟩
      split at hg
      · rename_i f ob hq
        obtain ⟨_, o, ho, _⟩ := mem_ready.1 hrm
        obtain ⟨hob, hg⟩ := prL_spec hg
        have wide : ∀ {L' : Array Bool} {w' : World}, Up all i listed L' → VI E.im Nf (maskRg (wrL K L') rg 0) w' → VI E.im Nf (maskRg (flatK (memB blk) K) rg 0) w' := fun hup hv =>
          ⟨hv.1.more fun r hr => by
            obtain ⟨p, h1, h2, h3⟩ := memN_flat.1 hr
            exact memN_flat.2 ⟨p, h1, (hup.within hclosed hn hi0 hwithin).2.2 _ h2, h3⟩, hv.2⟩
        obtain ⟨v, hv, hfr⟩ := qP_sound hT ho hq hob hN0 hf ((wide .here hS0).mono hN)
        refine wpF.take (S := fun L => VI E.im Nf (maskRg (wrL K L) rg 0)) ho hsel hfree hr (fun c a w h => hQ c a o.dst v w h) (fun L w => ⟨fun h => ⟨h.1.more fun r hr => (same L r).1 hr, h.2⟩, fun h => ⟨h.1.more fun r hr => (same L r).2 hr, h.2⟩⟩) ?_ hS0
          (ih m _ hs (by simpa using hn) hg hN hN0 hfr hS (fun r g hg hm => ha r g hg (by
            cases hx : memN (wrL K listed) r with
            | true => rw [(same listed r).2 hx] at hm; cases hm
            | false => rfl)) hl hk)
        rcases hv with ⟨hw, hrun⟩ | ⟨hw, rfl⟩
        · exact .inl ⟨hw, fun w ⟨L', hup, hw⟩ => hrun w ((wide hup hw).mono hN)⟩
        · exact .inr ⟨hw, rfl⟩
      · exact hg.elim
  | one i r ih =>
    intro m listed s N a w hs hn hg hN hN0 hf hS ha hl hk
    cases m with
    | zero => simp [treeOk] at hs
    | succ m =>
      simp only [treeOk, Bool.and_eq_true] at hs
      have hr := only_spec hs.1
      refine wpF.all hr (by simp) fun j hj => ?_
      simp only [List.mem_singleton] at hj; subst hj
      refine step m listed j _ (by rw [hr]; simp) hn hg hN hN0 hf hS ha hl fun s' N' a' w' hc hN' hf' hS' ha' hl' => ?_
      exact ih m _ hs.2 (by simpa using hn) hc (hN.trans hN') (hN0.trans hN') hf' hS' ha' hl' fun s2 N2 a2 w2 h1 h2 => hk s2 N2 a2 w2 h1 (hN'.trans h2)
  | two i j x y ihx ihy =>
    intro m listed s N a w hs hn hg hN hN0 hf hS ha hl hk
    cases m with
    | zero => simp [treeOk] at hs
    | succ m =>
      simp only [treeOk, Bool.and_eq_true] at hs
      obtain ⟨⟨h2, hx⟩, hy⟩ := hs
      have hr := only2_spec h2
      have hmi : i ∈ Region.ready .any all listed := by rcases hr with h | h <;> rw [h] <;> simp
      have hmj : j ∈ Region.ready .any all listed := by rcases hr with h | h <;> rw [h] <;> simp
      have si := step m listed i _ hmi hn hg.1 hN hN0 hf hS ha hl fun s' N' a' w' hc hN' hf' hS' ha' hl' => ihx m _ hx (by simpa using hn) hc (hN.trans hN') (hN0.trans hN') hf' hS' ha' hl' fun s2 N2 a2 w2 h1 h2 => hk s2 N2 a2 w2 h1 (hN'.trans h2)
      have sj := step m listed j _ hmj hn hg.2 hN hN0 hf hS ha hl fun s' N' a' w' hc hN' hf' hS' ha' hl' => ihy m _ hy (by simpa using hn) hc (hN.trans hN') (hN0.trans hN') hf' hS' ha' hl' fun s2 N2 a2 w2 h1 h2 => hk s2 N2 a2 w2 h1 (hN'.trans h2)
      rcases hr with h | h
      · exact wpF.all h (by simp) fun q hq => by
          simp only [List.mem_cons, List.not_mem_nil, or_false] at hq
          rcases hq with rfl | rfl
          · exact si
          · exact sj
      · exact wpF.all h (by simp) fun q hq => by
          simp only [List.mem_cons, List.not_mem_nil, or_false] at hq
          rcases hq with rfl | rfl
          · exact sj
          · exact si
theorem X.goT {P : Program} {fn : Func} {R : Ending → World → Prop} {W : World} {O : Nat → Nat → Prop} {im : Nat → Nat → Option Value} {D : Nat → Nat → Prop} {Rr : World → Prop} {N0 : Nums} {B : SchT} {T : Tab} (td : List (Nat × SV)) (hT : TabOk P T) (t : STree) (n : Nat) {id : Nat} {ops : Array Oper} {k : List It} {s : St}
    (hn : fn.ntmps = n) (hsel : Region.noSelect ops = true) (ht : treeOk ops t ops.size (Array.replicate ops.size false) = true)
    (h : ∀ (pr : Owe → Prop) (fin : St → Prop), (∀ q : Owe, q.Ok (mkE P fn R W O im D Rr N0 B).toEnv N0 → pr q) → (∀ s', X (mkE P fn R W O im D Rr N0 B) k s' → fin s') → anyT pr fin td T n ops (dryT td T n ops t s) s.rg t s) : X (mkE P fn R W O im D Rr N0 B) (.code (.region id ops true) :: k) s := by
  subst hn
  intro N a w hN hf hS
  show _ → Code.wp _ _ _ _ _
  intro _
  have hg := h (Owe.Ok (mkE P fn R W O im D Rr N0 B).toEnv N0) (fun s' => X (mkE P fn R W O im D Rr N0 B) k s') (fun _ h => h) (fun _ h => h)
  have hS' : Sat (mkE P fn R W O im D Rr N0 B).toEnv N s.rg { w with drawn := w.drawn + 1 } := hS.drew
  have hwf := anyT_sound (E := (mkE P fn R W O im D Rr N0 B).toEnv) hT hsel (PanicOk.sem (fun _ _ d _ _ h => by cases d <;> exact h) k) _ hS'.vis t _ _ ht (by simp) hg (Nums.le.refl N) hN hf hS' (fun r g hg _ => hg) (Nat.le_refl _) (fun s' N' a' w' h1 h2 h3 h4 => h1 N' a' w' (hN.trans h2) h3 h4)
  exact wp_region_any hT.mixed hwf.any
end Go.Eng

namespace Go.Eng
open Go
structure Ef where
  r : List Rg → SV
  sets : List (Nat × Rg)
  news : List Rg
def setsE : List (Nat × Rg) → List Rg → List Rg
  | [], rg => rg
  | (r, g) :: l, rg => setsE l (rg.set r g)
def snoc (rg : List Rg) : List Rg → List Rg
  | [] => rg
  | g :: l => rg ++ (g :: l)
def fsts : List (Nat × Rg) → List Nat
  | [] => []
  | (r, _) :: l => r :: fsts l
def Ef.up (e : Ef) (rg : List Rg) : List Rg := snoc (setsE e.sets rg) e.news
def Ef.ks (e : Ef) : List Nat := fsts e.sets
theorem snoc_eq (rg l : List Rg) : snoc rg l = rg ++ l := by cases l <;> simp [snoc]
theorem setsE_length : ∀ (l : List (Nat × Rg)) (rg : List Rg), (setsE l rg).length = rg.length
  | [], _ => rfl
  | (r, g) :: l, rg => by simp [setsE, setsE_length l]
theorem setsE_get : ∀ (l : List (Nat × Rg)) (rg : List Rg) (r : Nat), memN (fsts l) r = false → (setsE l rg)[r]? = rg[r]?
  | [], _, _, _ => rfl
  | (q, g) :: l, rg, r, h => by
    simp only [fsts, memN, Bool.or_eq_false_iff] at h
    have hne : q ≠ r := fun e => by subst e; simp at h
    rw [setsE, setsE_get l _ r h.2, List.getElem?_set_ne hne]
theorem Ef.keeps (e : Ef) (rg : List Rg) : Agree e.ks rg (e.up rg) ∧ rg.length ≤ (e.up rg).length := by
  constructor
  · intro r g hg hm
    have hl := (List.getElem?_eq_some_iff.1 hg).1
    rw [Ef.up, snoc_eq, List.getElem?_append_left (by rw [setsE_length]; exact hl), setsE_get _ _ _ hm]
    exact hg
  · rw [Ef.up, snoc_eq, List.length_append, setsE_length]; omega
def Effs (P : Program) (ρ : Operand → Value) (o : Oper) (w : World) (K : Value → World → Prop) : Prop :=
  (∃ v w', Yields P ρ o w v w' ∧ K v w') ∨ ∃ g args, (execOp ρ o).run P w = .ok (.enter g args) w ∧ Calls P g args w fun e w' => ∃ v, e = .returned v ∧ K v w'
theorem wp_of_effs {P : Program} {o : Oper} {a : Act} {w : World} {K' : Value → World → Prop} (h : Effs P a.eval o w K') {K : Act → World → Prop} {Q : Exit → Act → World → Prop} (hK : ∀ v w', K' v w' → K (a.put o.dst v) w') : o.wp P a w K Q := by
  rcases h with ⟨v, w', hy, hv⟩ | ⟨g, args, he, hc⟩
  · exact wp_of_yields hy (hK v w' hv)
  · unfold Oper.wp
    rw [he]
    refine Calls.mono hc fun e w' ⟨v, he, hv⟩ => ?_
    subst he
    exact hK v w' hv
def EffOk (E : Env) (N0 : Nums) (rg : List Rg) (f : Fr) (op : Op) (r : SV) (rg' : List Rg) : Prop :=
  ∀ (N : Nums) (ρ : Operand → Value) (o : Oper) (w : World), N0.le N → o.op = op → (∀ x s, ev f x = some s → s.den N = some (ρ x)) → Sat E N rg w →
    Effs E.P ρ o w fun v w' => ∃ N', N.le N' ∧ r.den N' = some v ∧ Sat E N' rg' w'
def lookE : List (Nat × Ef) → Nat → Option Ef
  | [], _ => none
  | (k, v) :: r, t => bif Nat.beq k t then some v else lookE r t
def keyE (o : Oper) (i : Nat) : Nat := match o.dst with
  | some d => d
  | none => 1000 + i
def effQ (tx : List (Nat × Ef)) (n : Nat) (all : Array Oper) (i : Nat) (s : St) : Option (Fr × Op × Ef) :=
  match nth all.toList i with
  | none => none
  | some o => match lookE tx (keyE o i) with
    | some e => bif sure all s.fr o then match putO n s.fr o.dst (.val (e.r s.rg)) with
        | some f => some (f, o.op, e)
        | none => none
      else none
    | none => none
theorem effQ_sound {E : Env} {tx : List (Nat × Ef)} {N N0 : Nums} {s : St} {a : Act} {all : Array Oper} {i : Nat} {o : Oper} {w : World} {f : Fr} {op : Op} {e : Ef} (ho : all[i]? = some o) (hq : effQ tx E.n all i s = some (f, op, e))
    (hob : EffOk E N0 s.rg s.fr op (e.r s.rg) (e.up s.rg)) (hN0 : N0.le N) (hf : FrOk E.n N s.fr a) (hS : Sat E N s.rg w) :
    Region.wanted o (yielded all a.tmps) = true ∧ ∀ (K : Act → World → Prop) (Q : Exit → Act → World → Prop), (∀ N' x w', N.le N' → FrOk E.n N' f (a.put o.dst x) → Sat E N' (e.up s.rg) w' → K (a.put o.dst x) w') → o.wp E.P a w K Q := by
  have ho' : nth all.toList i = some o := by rw [nth_eq]; simpa using ho
  unfold effQ at hq
  simp only [ho'] at hq
  split at hq
  · rename_i e0 _
    obtain ⟨hsu, hq⟩ := bif_none hq
    split at hq
    · rename_i f1 hp
      simp only [Option.some.injEq, Prod.mk.injEq] at hq
      obtain ⟨rfl, rfl, rfl⟩ := hq
      refine ⟨sure_sound hf hsu, fun K Q hK => ?_⟩
      exact wp_of_effs (hob N a.eval o w hN0 rfl (fun x s hx => ev_sound hf hx) hS) fun v w' ⟨N', h1, h2, h3⟩ => hK N' v w' h1 (putO_sound (hf.mono h1) h2 hp) h3
    · cases hq
  · cases hq
abbrev PE := List Rg → Fr → Op → SV → List Rg → Prop
def stepX (pe : PE) (pr : Owe → Prop) (td : List (Nat × SV)) (tx : List (Nat × Ef)) (T : Tab) (n : Nat) (all : Array Oper) (K : KW) (i : Nat) (c : St → Prop) (s : St) : Prop :=
  match effQ tx n all i s with
  | some (f, op, e) => allN (lookK K i) e.ks = true ∧ pe s.rg s.fr op (e.r s.rg) (e.up s.rg) ∧ c ⟨f, e.up s.rg⟩
  | none => stepT pr td T n all K i c s
def anyX (pe : PE) (pr : Owe → Prop) (fin : St → Prop) (td : List (Nat × SV)) (tx : List (Nat × Ef)) (T : Tab) (n : Nat) (all : Array Oper) (K : KW) (rg : List Rg) : STree → St → Prop
  | .nil, s => fin s
  | .q i blk r, s => quietK K i = true ∧ match qP td T n all (maskRg (flatK (memB blk) K) rg 0) i s.fr with
    | some (f, o) => prL pr o (anyX pe pr fin td tx T n all K rg r ⟨f, s.rg⟩)
    | none => False
  | .one i r, s => stepX pe pr td tx T n all K i (fun s' => anyX pe pr fin td tx T n all K rg r s') s
  | .two i j x y, s => stepX pe pr td tx T n all K i (fun s' => anyX pe pr fin td tx T n all K rg x s') s ∧ stepX pe pr td tx T n all K j (fun s' => anyX pe pr fin td tx T n all K rg y s') s
def dry1 (td : List (Nat × SV)) (tx : List (Nat × Ef)) (T : Tab) (n : Nat) (all : Array Oper) (i : Nat) (c : St → KW) (s : St) : KW :=
  match effQ tx n all i s with
  | some (f, _, e) => (i, e.ks) :: c ⟨f, e.up s.rg⟩
  | none => match qP td T n all s.rg i s.fr with
    | some (f, _) => c ⟨f, s.rg⟩
    | none => match opE T n all i s with
      | some s' => match stR s.fr all i with
        | some k => (i, [k]) :: c s'
        | none => c s'
      | none => match pcall td n all i s.fr with
        | some (f, _) => c ⟨f, s.rg⟩
        | none => []
def addK (i : Nat) (ks : List Nat) : KW → KW
  | [] => [(i, ks)]
  | (j, l) :: r => bif Nat.beq j i then (j, app ks l) :: r else (j, l) :: addK i ks r
def mergeK : KW → KW → KW
  | [], K => K
  | (i, ks) :: r, K => mergeK r (addK i ks K)
def dryX (td : List (Nat × SV)) (tx : List (Nat × Ef)) (T : Tab) (n : Nat) (all : Array Oper) : STree → St → KW
  | .nil, _ => []
  | .q i _ r, s => match qP td T n all s.rg i s.fr with
    | some (f, _) => dryX td tx T n all r ⟨f, s.rg⟩
    | none => []
  | .one i r, s => dry1 td tx T n all i (fun s' => dryX td tx T n all r s') s
  | .two i j x y, s => mergeK (dry1 td tx T n all i (fun s' => dryX td tx T n all x s') s) (dry1 td tx T n all j (fun s' => dryX td tx T n all y s') s)
theorem anyX_sound {E : Env} {T : Tab} (hT : TabOk E.P T) {td : List (Nat × SV)} {tx : List (Nat × Ef)} {all : Array Oper} (hsel : Region.noSelect all = true) {Q : Exit → Act → World → Prop} (hQ : PanicOk Q) {N0 : Nums} {K : KW} {rg : List Rg} {fin : St → Prop} {Nf : Nums} (wf : World) (hV : Vis Nf rg wf) : ∀ (t : STree) (m : Nat) (listed : Array Bool) {s : St} {N : Nums} {a : Act} {w : World},
    treeOk all t m listed = true → listed.size = all.size → anyX (EffOk E N0) (Owe.Ok E N0) fin td tx T E.n all K rg t s → Nf.le N → N0.le N → FrOk E.n N s.fr a → Sat E N s.rg w → Agree (wrL K listed) rg s.rg → rg.length ≤ s.rg.length →
    (∀ s' N' a' w', fin s' → N.le N' → FrOk E.n N' s'.fr a' → Sat E N' s'.rg w' → Q .normal a' w') → wpF E.P all Q (fun L => VI E.im Nf (maskRg (wrL K L) rg 0)) m listed a w := by
  have emp : ∀ {l : List Nat}, l.isEmpty = true → l = [] := by intro l h; cases l <;> simp at h ⊢
  have see : ∀ (L : Array Bool) {N : Nums} {rg' : List Rg} {w : World}, Nf.le N → Agree (wrL K L) rg rg' → Sat E N rg' w → VI E.im Nf (maskRg (wrL K L) rg 0) w := fun L _ _ _ hN ha hS => ⟨vis_of_agree (hV.mask _) hN ha hS, hS.imm⟩
  -- one operation that is ready
  have step : ∀ (m : Nat) (listed : Array Bool) (i : Nat) (c : St → Prop) {s : St} {N : Nums} {a : Act} {w : World}, i ∈ Region.ready .any all listed → listed.size = all.size → stepX (EffOk E N0) (Owe.Ok E N0) td tx T E.n all K i c s → Nf.le N → N0.le N → FrOk E.n N s.fr a → Sat E N s.rg w → Agree (wrL K listed) rg s.rg → rg.length ≤ s.rg.length →
      (∀ s' N' a' w', c s' → N.le N' → FrOk E.n N' s'.fr a' → Sat E N' s'.rg w' → Agree (wrL K (listed.setIfInBounds i true)) rg s'.rg → rg.length ≤ s'.rg.length → wpF E.P all Q (fun L => VI E.im Nf (maskRg (wrL K L) rg 0)) m (listed.setIfInBounds i true) a' w') →
      wpOp E.P all Q i (fun a' w' => VI E.im Nf (maskRg (wrL K (listed.setIfInBounds i true)) rg 0) w' ∧ wpF E.P all Q (fun L => VI E.im Nf (maskRg (wrL K L) rg 0)) m (listed.setIfInBounds i true) a' w') a w := by
    intro m listed i c s N a w hrm hn hg hN hN0 hf hS ha hl hk
    have hlt : i < listed.size := by
      obtain ⟨_, o, ho, _⟩ := mem_ready.1 hrm
      rw [hn]; exact (Array.getElem?_eq_some_iff.1 ho).1
    have hset : (listed.setIfInBounds i true).getD i false = true := by simp [hlt]
    have grow : ∀ r, memN (wrL K listed) r = true → memN (wrL K (listed.setIfInBounds i true)) r = true := fun r h => by
      obtain ⟨p, h1, h2, h3⟩ := memN_flat.1 h
      refine memN_flat.2 ⟨p, h1, ?_, h3⟩
      by_cases e : i = p.1
      · rw [← e]; exact hset
      · rw [getD_set_ne false e]; exact h2
    have own : ∀ k, memN (lookK K i) k = true → memN (wrL K (listed.setIfInBounds i true)) k = true := fun k hk => by
      obtain ⟨p, h1, h2, h3⟩ := lookK_mem hk
      exact memN_flat.2 ⟨p, h1, by rw [h2]; exact hset, h3⟩
    have ha1 : Agree (wrL K (listed.setIfInBounds i true)) rg s.rg := ha.mono fun r hr => by
      cases hx : memN (wrL K listed) r with
      | true => rw [grow r hx] at hr; cases hr
      | false => rfl
    obtain ⟨_, o, ho, _⟩ := mem_ready.1 hrm
    unfold stepX at hg
    unfold wpOp
    simp only [ho]
    split at hg
    · rename_i f op e hq
      obtain ⟨hmk, hob, hg⟩ := hg
      obtain ⟨hw, hx⟩ := effQ_sound ho hq hob hN0 hf hS
      obtain ⟨hk1, hk2⟩ := e.keeps s.rg
      have ha2 : Agree (wrL K (listed.setIfInBounds i true)) rg (e.up s.rg) := fun r g hg hr => hk1 r g (ha1 r g hg hr) (allN_spec hmk r (by
        cases hx : memN (lookK K i) r with
        | true => rw [own r hx] at hr; cases hr
        | false => rfl))
      rw [hw, if_pos rfl]
      exact .inl (hx _ _ fun N' x w' hN' hf' hS' => ⟨see _ (hN.trans hN') ha2 hS', hk _ N' _ w' hg hN' hf' hS' ha2 (Nat.le_trans hl hk2)⟩)
    unfold stepT at hg
    split at hg
    · rename_i f ob hq
      obtain ⟨hob, hg⟩ := prL_spec hg
      obtain ⟨v, hv, hfr⟩ := qP_sound hT ho hq hob hN0 hf hS.vi
      have hnext := hk _ N _ w hg (Nums.le.refl N) hfr hS ha1 hl
      rcases hv with ⟨hw, hrun⟩ | ⟨hw, rfl⟩
      · rw [hw, if_pos rfl]
        exact .inl (wp_of_yields (.inl (hrun w hS.vi)) ⟨see _ hN ha1 hS, hnext⟩)
      · rw [hw]
        exact ⟨see _ hN ha1 hS, hnext⟩
    · split at hg
      · rename_i s1 he
        obtain ⟨hmk, hg2⟩ := hg
        obtain ⟨hw, N', x, w', hN', hy, hf', hS'⟩ := opE_sound hT (by simpa using ho) he hf hS
        have ha2 := stepE_agree (ks := wrL K (listed.setIfInBounds i true)) ha1 hl (by
          split
          · rename_i k hk'
            rw [hk'] at hmk
            exact own k hmk
          · rfl) he
        rw [hw, if_pos rfl]
        exact .inl (wp_of_yields hy ⟨see _ (hN.trans hN') ha2.1 hS', hk _ N' _ _ hg2 hN' hf' hS' ha2.1 ha2.2⟩)
      · split at hg
        · rename_i f gk g l v hpc
          obtain ⟨hob, hg⟩ := hg
          rcases pcall_sound ho hpc hob hN0 hf hS with ⟨hw, hx⟩ | ⟨hw, hf'⟩
          · rw [hw, if_pos rfl]
            exact .inl (hx _ _ fun x w' hf' hS' => ⟨see _ hN ha1 hS', hk _ N _ w' hg (Nums.le.refl N) hf' hS' ha1 hl⟩)
          · rw [hw]
            exact ⟨see _ hN ha1 hS, hk _ N _ w hg (Nums.le.refl N) hf' hS ha1 hl⟩
        · exact hg.elim
  intro t
  induction t with
  | nil =>
    intro m listed s N a w hs hn hg hN hN0 hf hS ha hl hk
    simp only [treeOk, Bool.and_eq_true] at hs
    obtain rfl := Nat.eq_of_beq_eq_true hs.1
    exact wpF.done (emp hs.2) (hk s N a w hg (Nums.le.refl N) hf hS)
  | q i blk r ih =>
    intro m listed s N a w hs hn hg hN hN0 hf hS ha hl hk
    cases m with
    | zero => simp [treeOk] at hs
    | succ m =>
      have hS0 := see listed hN ha hS
      simp only [treeOk, Bool.and_eq_true] at hs
      obtain ⟨⟨⟨⟨hr, hfree⟩, hclosed⟩, hwithin⟩, hs⟩ := hs
      simp only [anyX] at hg
      obtain ⟨hqk, hg⟩ := hg
      have hqk := quietK_spec hqk
      have hrm : i ∈ Region.ready .any all listed := by simpa using hr
      have hi0 : listed.getD i false = false := by
        have h1 := (mem_ready.1 hrm).1
        rcases Nat.lt_or_ge i listed.size with h' | h'
        · simp [h'] at h1 ⊢; exact h1
        · rw [Array.getD_eq_getD_getElem?, Array.getElem?_eq_none h']; rfl
      have same : ∀ (L : Array Bool) (r : Nat), memN (wrL K (L.setIfInBounds i true)) r = true ↔ memN (wrL K L) r = true := fun L r => by
        simp only [wrL, memN_flat]
        constructor
        · rintro ⟨p, h1, h2, h3⟩
          exact ⟨p, h1, by rwa [getD_set_ne false (fun e => hqk p h1 e.symm)] at h2, h3⟩
        · rintro ⟨p, h1, h2, h3⟩
          exact ⟨p, h1, by rwa [getD_set_ne false (fun e => hqk p h1 e.symm)], h3⟩
      split at hg
      · rename_i f ob hq
        obtain ⟨_, o, ho, _⟩ := mem_ready.1 hrm
        obtain ⟨hob, hg⟩ := prL_spec hg
        have wide : ∀ {L' : Array Bool} {w' : World}, Up all i listed L' → VI E.im Nf (maskRg (wrL K L') rg 0) w' → VI E.im Nf (maskRg (flatK (memB blk) K) rg 0) w' := fun hup hv =>
          ⟨hv.1.more fun r hr => by
            obtain ⟨p, h1, h2, h3⟩ := memN_flat.1 hr
            exact memN_flat.2 ⟨p, h1, (hup.within hclosed hn hi0 hwithin).2.2 _ h2, h3⟩, hv.2⟩
        obtain ⟨v, hv, hfr⟩ := qP_sound hT ho hq hob hN0 hf ((wide .here hS0).mono hN)
        refine wpF.take (S := fun L => VI E.im Nf (maskRg (wrL K L) rg 0)) ho hsel hfree hr (fun c a w h => hQ c a o.dst v w h) (fun L w => ⟨fun h => ⟨h.1.more fun r hr => (same L r).1 hr, h.2⟩, fun h => ⟨h.1.more fun r hr => (same L r).2 hr, h.2⟩⟩) ?_ hS0
          (ih m _ hs (by simpa using hn) hg hN hN0 hfr hS (fun r g hg hm => ha r g hg (by
            cases hx : memN (wrL K listed) r with
            | true => rw [(same listed r).2 hx] at hm; cases hm
            | false => rfl)) hl hk)
        rcases hv with ⟨hw, hrun⟩ | ⟨hw, rfl⟩
        · exact .inl ⟨hw, fun w ⟨L', hup, hw⟩ => hrun w ((wide hup hw).mono hN)⟩
        · exact .inr ⟨hw, rfl⟩
      · exact hg.elim
  | one i r ih =>
    intro m listed s N a w hs hn hg hN hN0 hf hS ha hl hk
    cases m with
    | zero => simp [treeOk] at hs
    | succ m =>
      simp only [treeOk, Bool.and_eq_true] at hs
      have hr := only_spec hs.1
      refine wpF.all hr (by simp) fun j hj => ?_
      simp only [List.mem_singleton] at hj; subst hj
      refine step m listed j _ (by rw [hr]; simp) hn hg hN hN0 hf hS ha hl fun s' N' a' w' hc hN' hf' hS' ha' hl' => ?_
      exact ih m _ hs.2 (by simpa using hn) hc (hN.trans hN') (hN0.trans hN') hf' hS' ha' hl' fun s2 N2 a2 w2 h1 h2 => hk s2 N2 a2 w2 h1 (hN'.trans h2)
  | two i j x y ihx ihy =>
    intro m listed s N a w hs hn hg hN hN0 hf hS ha hl hk
    cases m with
    | zero => simp [treeOk] at hs
    | succ m =>
      simp only [treeOk, Bool.and_eq_true] at hs
      obtain ⟨⟨h2, hx⟩, hy⟩ := hs
      have hr := only2_spec h2
      have hmi : i ∈ Region.ready .any all listed := by rcases hr with h | h <;> rw [h] <;> simp
      have hmj : j ∈ Region.ready .any all listed := by rcases hr with h | h <;> rw [h] <;> simp
      have si := step m listed i _ hmi hn hg.1 hN hN0 hf hS ha hl fun s' N' a' w' hc hN' hf' hS' ha' hl' => ihx m _ hx (by simpa using hn) hc (hN.trans hN') (hN0.trans hN') hf' hS' ha' hl' fun s2 N2 a2 w2 h1 h2 => hk s2 N2 a2 w2 h1 (hN'.trans h2)
      have sj := step m listed j _ hmj hn hg.2 hN hN0 hf hS ha hl fun s' N' a' w' hc hN' hf' hS' ha' hl' => ihy m _ hy (by simpa using hn) hc (hN.trans hN') (hN0.trans hN') hf' hS' ha' hl' fun s2 N2 a2 w2 h1 h2 => hk s2 N2 a2 w2 h1 (hN'.trans h2)
      rcases hr with h | h
      · exact wpF.all h (by simp) fun q hq => by
          simp only [List.mem_cons, List.not_mem_nil, or_false] at hq
          rcases hq with rfl | rfl
          · exact si
          · exact sj
      · exact wpF.all h (by simp) fun q hq => by
          simp only [List.mem_cons, List.not_mem_nil, or_false] at hq
          rcases hq with rfl | rfl
          · exact sj
          · exact si
theorem X.goTX {P : Program} {fn : Func} {R : Ending → World → Prop} {W : World} {O : Nat → Nat → Prop} {im : Nat → Nat → Option Value} {D : Nat → Nat → Prop} {Rr : World → Prop} {N0 : Nums} {B : SchT} {T : Tab} (td : List (Nat × SV)) (tx : List (Nat × Ef)) (hT : TabOk P T) (t : STree) (n : Nat) {id : Nat} {ops : Array Oper} {k : List It} {s : St}
    (hn : fn.ntmps = n) (hsel : Region.noSelect ops = true) (ht : treeOk ops t ops.size (Array.replicate ops.size false) = true)
    (h : ∀ (pr : Owe → Prop) (pe : PE) (fin : St → Prop), (∀ q : Owe, q.Ok (mkE P fn R W O im D Rr N0 B).toEnv N0 → pr q) → (∀ rg f op r rg', EffOk (mkE P fn R W O im D Rr N0 B).toEnv N0 rg f op r rg' → pe rg f op r rg') → (∀ s', X (mkE P fn R W O im D Rr N0 B) k s' → fin s') → anyX pe pr fin td tx T n ops (dryX td tx T n ops t s) s.rg t s) : X (mkE P fn R W O im D Rr N0 B) (.code (.region id ops true) :: k) s := by
  subst hn
  intro N a w hN hf hS
  show _ → Code.wp _ _ _ _ _
  intro _
  have hg := h (Owe.Ok (mkE P fn R W O im D Rr N0 B).toEnv N0) (EffOk (mkE P fn R W O im D Rr N0 B).toEnv N0) (fun s' => X (mkE P fn R W O im D Rr N0 B) k s') (fun _ h => h) (fun _ _ _ _ _ h => h) (fun _ h => h)
  have hS' : Sat (mkE P fn R W O im D Rr N0 B).toEnv N s.rg { w with drawn := w.drawn + 1 } := hS.drew
  have hwf := anyX_sound (E := (mkE P fn R W O im D Rr N0 B).toEnv) hT hsel (PanicOk.sem (fun _ _ d _ _ h => by cases d <;> exact h) k) _ hS'.vis t _ _ ht (by simp) hg (Nums.le.refl N) hN hf hS' (fun r g hg _ => hg) (Nat.le_refl _) (fun s' N' a' w' h1 h2 h3 h4 => h1 N' a' w' (hN.trans h2) h3 h4)
  exact wp_region_any hT.mixed hwf.any
def treeS : Sch → STree
  | [] => .nil
  | (i, some blk) :: r => .q i blk (treeS r)
  | (i, none) :: r => .one i (treeS r)
theorem treeS_ok {ops : Array Oper} : ∀ (sch : Sch) (L : Array Bool), schOk ops sch L = true → treeOk ops (treeS sch) sch.length L = true
  | [], L, h => by
    simp only [schOk] at h
    simp only [treeS, treeOk, List.length_nil]
    simp [h]
  | (i, some blk) :: r, L, h => by
    simp only [schOk, Bool.and_eq_true] at h
    simp only [treeS, treeOk, List.length_cons, Bool.and_eq_true]
    exact ⟨h.1, treeS_ok r _ h.2⟩
  | (i, none) :: r, L, h => by
    simp only [schOk, Bool.and_eq_true] at h
    simp only [treeS, treeOk, List.length_cons, Bool.and_eq_true]
    exact ⟨h.1, treeS_ok r _ h.2⟩
def runX (pe : PE) (pr : Owe → Prop) (fin : List It → St → Prop) (td : List (Nat × SV)) (tx : List (Nat × Ef)) (T : Tab) (B : SchT) (n : Nat) (rs : List ResultVar) : Nat → List It → St → Prop
  | 0, t, s => fin t s
  | m + 1, t, s =>
    match t with
    | .ops all (i :: rest) :: k => match effQ tx n all i s with
      | some (f, op, e) => pe s.rg s.fr op (e.r s.rg) (e.up s.rg) ∧ runX pe pr fin td tx T B n rs m (.ops all rest :: k) ⟨f, e.up s.rg⟩
      | none => match qP td T n all s.rg i s.fr with
        | some (f, o) => prL pr o (runX pe pr fin td tx T B n rs m (.ops all rest :: k) ⟨f, s.rg⟩)
        | none => match opE T n all i s with
          | some s' => runX pe pr fin td tx T B n rs m (.ops all rest :: k) s'
          | none => match pcall td n all i s.fr with
            | some (f, gk, g, l, v) => pr (.call s.rg gk g l v) ∧ runX pe pr fin td tx T B n rs m (.ops all rest :: k) ⟨f, s.rg⟩
            | none => fin t s
    | _ => match adv T n rs t s with
      | some (t', s') => runX pe pr fin td tx T B n rs m t' s'
      | none => match t with
        | .code c :: k => match c with
          | .region id ops d => match d with
            | true => match lookS B id with
              | some sch => anyX pe pr (fun s' => runX pe pr fin td tx T B n rs m k s') td tx T n ops (dryX td tx T n ops (treeS sch) s) s.rg (treeS sch) s
              | none => fin t s
            | false => fin t s
          | _ => fin t s
        | _ => fin t s
theorem runX_sound {td : List (Nat × SV)} {tx : List (Nat × Ef)} {T : Tab} {B : SchT} {n : Nat} {rs : List ResultVar} (E : Ctx) (e1 : E.n = n) (e2 : E.B = B) (e3 : TabOk E.P T) (e4 : PanicOk E.Q) : ∀ (m : Nat) (t : List It) (s : St),
    runX (EffOk E.toEnv E.N0) (Owe.Ok E.toEnv E.N0) (fun t s => X E t s) td tx T B n rs m t s → X E t s := by
  subst e1
  subst e2
  intro m
  induction m with
  | zero => intro t s h; exact h
  | succ m ih =>
    intro t s h
    simp only [runX] at h
    split at h
    · rename_i all i rest k
      have there : ∀ {α : Type} {y : α} {f : Oper → Option α}, (match nth all.toList i with | none => none | some o => f o) = some y → ∃ op, all[i]? = some op := fun {α y f} h => by
        split at h
        · cases h
        · rename_i op hop; rw [nth_eq] at hop; exact ⟨op, by simpa using hop⟩
      split at h
      · rename_i f op e hq
        obtain ⟨hob, h⟩ := h
        have hx := ih _ _ h
        intro N a w hN hf hS
        show wpOps _ _ _ _ _ _
        obtain ⟨o, ho⟩ := there hq
        obtain ⟨hw, h2⟩ := effQ_sound (E := E.toEnv) ho hq hob hN hf hS
        rw [wpOps_cons]
        unfold wpOp
        simp only [ho]
        rw [hw, if_pos rfl]
        exact .inl (h2 _ _ fun N' x w' hN' hf' hS' => hx N' _ w' (hN.trans hN') hf' hS')
      · split at h
        · rename_i f o hq
          obtain ⟨hob, h⟩ := prL_spec h
          have hx := ih _ _ h
          intro N a w hN hf hS
          show wpOps _ _ _ _ _ _
          obtain ⟨op, hop⟩ := there hq
          obtain ⟨v, hv, hfr⟩ := qP_sound e3 hop hq hob hN hf hS.vi
          rw [wpOps_cons]
          unfold wpOp
          simp only [hop]
          rcases hv with ⟨hw, hrun⟩ | ⟨hw, rfl⟩
          · rw [hw, if_pos rfl]
            exact .inl (wp_of_yields (.inl (hrun w hS.vi)) (hx N _ w hN hfr hS))
          · rw [hw]
            exact hx N _ w hN hfr hS
        · split at h
          · rename_i s1 he
            exact X.opEq e3 ⟨he⟩ (ih _ _ h)
          · split at h
            · rename_i f gk g l v hpc
              obtain ⟨hob, h⟩ := h
              have hx := ih _ _ h
              intro N a w hN hf hS
              show wpOps _ _ _ _ _ _
              obtain ⟨op, hop⟩ := there hpc
              rw [wpOps_cons]
              unfold wpOp
              simp only [hop]
              rcases pcall_sound hop hpc hob hN hf hS with ⟨hw, hy⟩ | ⟨hw, hf'⟩
              · rw [hw, if_pos rfl]
                exact .inl (hy _ _ fun x w' hf' hS' => hx N _ w' hN hf' hS')
              · rw [hw]
                exact hx N _ w hN hf' hS
            · exact h
    · split at h
      · rename_i t1 s1 ha
        exact adv_sound e3 ha (ih _ _ h)
      · split at h
        · rename_i c k _
          split at h
          · rename_i id ops d _
            split at h
            · split at h
              · rename_i sch hsch
                intro N a w hN hf hS
                show _ → Code.wp _ _ _ _ _
                intro hreg
                simp only [regsB, hsch] at hreg
                have hS' : Sat E.toEnv N s.rg { w with drawn := w.drawn + 1 } := hS.drew
                simp only [anyOk, Bool.and_eq_true] at hreg
                obtain ⟨⟨hn, hlen⟩, hsch'⟩ := hreg
                have hlen := Nat.eq_of_beq_eq_true hlen
                have := anyX_sound (E := E.toEnv) e3 hn (e4.sem _) _ hS'.vis (treeS sch) _ _ (treeS_ok sch _ hsch') (by simp) h (Nums.le.refl N) hN hf hS' (fun r g hg _ => hg) (Nat.le_refl _) (fun s' N' a' w' hx hN' hf' hS' => ih _ _ hx N' a' w' (hN.trans hN') hf' hS')
                rw [hlen] at this
                exact wp_region_any e3.mixed this.any
              · exact h
            · exact h
          · exact h
        · exact h
theorem X.goX {P : Program} {fn : Func} {R : Ending → World → Prop} {W : World} {O : Nat → Nat → Prop} {im : Nat → Nat → Option Value} {D : Nat → Nat → Prop} {Rr : World → Prop} {N : Nums} {B : SchT} {T : Tab} (td : List (Nat × SV)) (tx : List (Nat × Ef)) (hT : TabOk P T) (m n : Nat) (hn : fn.ntmps = n) {t : List It} {s : St} {rs : Array ResultVar} (_hrs : fn.results = rs)
    (h : ∀ (pr : Owe → Prop) (pe : PE) (fin : List It → St → Prop), (∀ q, q.Ok (mkE P fn R W O im D Rr N B).toEnv N → pr q) → (∀ rg f op r rg', EffOk (mkE P fn R W O im D Rr N B).toEnv N rg f op r rg' → pe rg f op r rg') → (∀ t s, X (mkE P fn R W O im D Rr N B) t s → fin t s) → runX pe pr fin td tx T B n rs.toList m t s) : X (mkE P fn R W O im D Rr N B) t s := by
  subst hn
  exact runX_sound (mkE P fn R W O im D Rr N B) rfl rfl hT (fun _ _ d _ _ h => by cases d <;> exact h) m t s (h _ _ _ (fun _ h => h) (fun _ _ _ _ _ h => h) (fun _ _ h => h))
end Go.Eng

namespace Go.Eng
open Go
theorem EffOk.step {E : Env} {N0 : Nums} {T : Tab} (hT : TabOk E.P T) {rg rg' : List Rg} {f : Fr} {op : Op} {r : SV} (h : stepE T rg (ev f) op = some (r, rg')) : EffOk E N0 rg f op r rg' := by
  intro N a o w hN hop hf hS
  subst hop
  obtain ⟨N', x, w', h1, h2, h3, h4⟩ := stepE_sound hT hS hf h
  exact .inl ⟨x, w', h3, N', h1, h2, h4⟩
theorem EffOk.call {E : Env} {N0 : Nums} {rg rg' : List Rg} {f : Fr} {g : Nat} {xs : Array Operand} {ts : Array TypeId} {l : List SV} {r : SV} (hl : evL f xs.toList = some l) (hc : ∀ args w, (callFunc g args).run E.P w = .ok (.enter g args) w)
    (h : ∀ (N : Nums) (w : World) (args : List Value), N0.le N → Sat E N rg w → SV.denL N l = some args → Calls E.P g args.toArray w fun e w' => ∃ v, e = .returned v ∧ ∃ N', N.le N' ∧ r.den N' = some v ∧ Sat E N' rg' w') :
    EffOk E N0 rg f (.call { callee := .value (.func g), args := xs, argTypes := ts }) r rg' := by
  intro N ρ o w hN hop hf hS
  have hargs : SV.denL N l = some (xs.toList.map ρ) := by
    have key : ∀ (ys : List Operand) {l : List SV}, evL f ys = some l → SV.denL N l = some (ys.map ρ) := fun ys => by
      induction ys with
      | nil => intro l h; simp only [evL, Option.some.injEq] at h; subst h; rfl
      | cons y ys ih =>
        intro l h
        simp only [evL] at h
        split at h
        · rename_i v q hv hq
          simp only [Option.some.injEq] at h; subst h
          simp [SV.denL, hf _ _ hv, ih hq]
        · cases h
    exact key _ hl
  refine .inr ⟨g, (xs.toList.map ρ).toArray, ?_, h N w _ hN hS hargs⟩
  have hfn := hf (.func g) _ rfl
  simp only [SV.den, one?, if_true, Option.some.injEq] at hfn
  simp only [execOp, hop, resolve, ← hfn, Deferred.ofValue, Sem.run_bind, Sem.run_pure, Result.andThen, invoke]
  rw [hc]
  congr 2
  apply Array.ext'
  simp
theorem EffOk.fresh {E : Env} {N0 : Nums} {rg : List Rg} {f : Fr} {g n sz : Nat} {xs : Array Operand} {ts : Array TypeId} {l : List SV} {cs : List SV} (hl : evL f xs.toList = some l) (hc : ∀ args w, (callFunc g args).run E.P w = .ok (.enter g args) w)
    (h : ∀ (N : Nums) (w : World) (args : List Value), N0.le N → Sat E N rg w → SV.denL N l = some args → Calls E.P g args.toArray w (FreshRet cs n sz w)) :
    EffOk E N0 rg f (.call { callee := .value (.func g), args := xs, argTypes := ts }) (.osl rg.length 0 n sz none) (rg ++ [⟨true, cs, none⟩]) :=
  EffOk.call hl hc fun N w args hN hS ha => (h N w args hN hS ha).mono fun e w' hf => by
    obtain ⟨p, v, h1, h2, _, h3⟩ := hf.sat hS
    exact ⟨v, h1, _, Nums.le_append _ _, h2, h3⟩
theorem Sat.cells {E : Env} {N : Nums} {rg : List Rg} {w w' : World} {r : Nat} {g : Rg} {p : Num} (h : Sat E N rg w) (hg : rg[r]? = some g) (hp : N[r]? = some p) (ho : g.own = true)
    (hc : Chg (fun k o => k = p.b ∧ p.o ≤ o ∧ o < p.o + p.x) w w') (cs' : List SV) (hl : cs'.length ≤ p.x) (hcs : ∀ (j : Nat) (c : SV), cs'[j]? = some c → ∃ v, c.den N = some v ∧ w'.cell? ⟨p.b, p.o + j, none⟩ = some v) : Sat E N (rg.set r { g with cells := cs' }) w' := by
  have hrl : r < rg.length := (List.getElem?_eq_some_iff.1 hg).1
  have hnd : ∀ k o, (k = p.b ∧ p.o ≤ o ∧ o < p.o + p.x) → ¬ E.D k o := fun k o ⟨e1, e2, e3⟩ hd => by
    subst e1
    have := h.dd r g p hg hp ho (o - p.o) (by omega)
    rw [show p.o + (o - p.o) = o by omega] at this
    exact this hd
  have keepD : ∀ k o, E.D k o → (w'.cell? ⟨k, o, none⟩ = w.cell? ⟨k, o, none⟩ ∧ w'.frozen? ⟨k, o, none⟩ = w.frozen? ⟨k, o, none⟩) ∧ objAt w' k = objAt w k := fun k o hd => by
    have hlt := (h.dlt k o hd).lt
    obtain ⟨x, hx⟩ : ∃ x, w.heap[k]? = some x := ⟨_, Array.getElem?_eq_getElem hlt⟩
    cases x with
    | cells c e f =>
      obtain ⟨c', h1, h2, h3⟩ := hc.cells k c e f hx
      have h4 := h3 o (fun e => hnd k o e hd)
      refine ⟨⟨by simp [World.cell?, hx, h1, h4], by simp [World.frozen?, hx, h1]⟩, by simp [objAt, hx, h1]⟩
    | _ =>
      have hne : ∀ o', ¬ (k = p.b ∧ p.o ≤ o' ∧ o' < p.o + p.x) := fun o' ⟨e1, e2, e3⟩ => by
        have := (h.room r g p hg hp ho (o' - p.o) (by omega)).1
        rw [← e1] at this
        simp [World.cell?, hx] at this
      have e := hc.same k hlt hne
      exact ⟨⟨by unfold World.cell?; simp only [e], by unfold World.frozen?; simp only [e]⟩, objAt_same e⟩
  refine h.after (m' := E.im) (D' := E.D) (R' := E.R) hc (fun k o _ ⟨e1, e2, e3⟩ => .inl ⟨r, g, p, hg, hp, ho, e1, e2, e3⟩) ⟨fun _ _ _ h => h, fun k o v hv => ?_, fun _ _ _ h => .inl h⟩
    (fun k o hd => ⟨.inl hd, (h.dlt k o hd).of (fun hs => by rw [(keepD k o hd).1.1]; exact hs) (keepD k o hd).2⟩) h.loc (h.loc w w' keepD hc.size h.res) (by simp) (fun q x x' pq hq1 hq2 hpq => ?_)
  · refine cell_of_chg hc (fun ⟨e1, e2, e3⟩ => ?_) (h.imm k o v hv)
    have := h.imd r g p hg hp ho (o - p.o) (by omega)
    rw [show p.o + (o - p.o) = o by omega, ← e1, hv] at this
    cases this
  · rcases get_set hrl hq2 with ⟨rfl, rfl⟩ | ⟨hi, hq2⟩
    · rw [hg] at hq1; cases hq1
      rw [hp] at hpq; cases hpq
      exact ⟨rfl, rfl, fun e => (by rw [ho] at e; cases e), fun _ => hl, .inr hcs⟩
    · rw [hq1] at hq2; cases hq2
      refine ⟨rfl, rfl, fun _ => rfl, fun e => h.ext q x pq hq1 hpq e, .inl ⟨rfl, fun j hj ⟨e1, e2, e3⟩ => ?_⟩⟩
      have hw : j < x.wid pq := by
        unfold Rg.wid
        cases hxo : x.own with
        | true => have := h.ext q x pq hq1 hpq hxo; simp; omega
        | false => simpa using hj
      rcases h.disj r q g x p pq hg hp hq1 hpq ho (fun e => hi e.symm) j hw e1 with h1 | h1 <;> omega
def TurnRet (b y K : Nat) (cs : List SV) (n sz : Nat) (w : World) (e : Ending) (w' : World) : Prop :=
  ∃ b' y' x' : Nat, e = .returned (.slice (some ⟨b', y', none⟩) n (x' / sz)) ∧ ((b' = b ∧ y' = y ∧ x' = K) ∨ w.heap.size ≤ b') ∧ cs.length ≤ x' ∧ 0 < x' ∧ (∀ (j : Nat) (c : SV), cs[j]? = some c → ∃ v, c.den [] = some v ∧ w'.cell? ⟨b', y' + j, none⟩ = some v) ∧
    (∀ j, j < x' → (w'.cell? ⟨b', y' + j, none⟩).isSome = true ∧ w'.frozen? ⟨b', y' + j, none⟩ = false) ∧ Chg (fun k o => k = b ∧ y ≤ o ∧ o < y + K) w w'
theorem TurnRet.sat {E : Env} {N : Nums} {rg : List Rg} {w w' : World} {r : Nat} {g : Rg} {p : Num} {cs : List SV} {n sz : Nat} {e : Ending} (h : Sat E N rg w) (hg : rg[r]? = some g) (hp : N[r]? = some p) (ho : g.own = true) (hob : g.ob = none) (hf : TurnRet p.b p.o p.x cs n sz w e w') :
    ∃ v N', e = .returned v ∧ N.le N' ∧ (SV.osl rg.length 0 n sz none).den N' = some v ∧ Sat E N' (rg.set r ⟨false, [], none⟩ ++ [⟨true, cs, none⟩]) w' := by
  obtain ⟨b', y', x', he, hcase, h1, h2, h3, h4, hc⟩ := hf
  have hrl : r < rg.length := (List.getElem?_eq_some_iff.1 hg).1
  have hget : ∀ q : Num, (N ++ [q])[rg.length]? = some q := fun q => by rw [← h.len]; simp
  rcases hcase with ⟨rfl, rfl, rfl⟩ | hnew
  · have hs := h.cells hg hp ho hc cs h1 (fun j c hj => by
      obtain ⟨v, k1, k2⟩ := h3 j c hj
      exact ⟨v, SV.den_mono (N := []) (N' := N) (fun r p h => by simp at h) c k1, k2⟩)
    have hs2 := hs.cut (c := 0) (n := cs.length) (g := { g with cells := cs }) (by rw [List.getElem?_set_self hrl]) hp ho (by simp)
    simp only [List.drop_zero, List.take_length, List.set_set, Nat.add_zero, Nat.sub_zero] at hs2
    exact ⟨_, _, he, Nums.le_append _ _, by simp only [SV.den, hget, Num.cap]; simp, hs2⟩
  · have hs := (h.cells hg hp ho hc [] (Nat.zero_le _) (fun j c hj => by simp at hj)).retire (r := r) (by simpa using hrl)
    rw [List.set_set] at hs
    refine ⟨_, _, he, Nums.le_append _ [⟨b', y', x'⟩], by simp only [SV.den, hget, Num.cap]; simp, ?_⟩
    refine hs.addFresh (s0 := w.heap.size) (fun r p hp => h.lt r p hp) hnew h.chg.size ?_ h1 (fun j c hj => ?_) h4 (fun i => ?_) (fun i hd => ?_)
    · obtain ⟨v, hv⟩ := Option.isSome_iff_exists.1 (h4 0 h2).1
      exact World.block_lt_of_cell? _ _ hv
    · obtain ⟨v, k1, k2⟩ := h3 j c hj
      exact ⟨v, SV.den_mono (N := []) (N' := N) (fun r p h => by simp at h) c k1, k2⟩
    · cases hi : E.im b' i with
      | none => rfl
      | some v => have := World.block_lt_of_cell? _ _ (h.imm _ _ _ hi); simp at this; omega
    · have := (h.dlt _ _ hd).lt
      omega
theorem EffOk.turn {E : Env} {N0 : Nums} {rg : List Rg} {f : Fr} {g n sz r : Nat} {xs : Array Operand} {ts : Array TypeId} {l : List SV} {cs : List SV} {gg : Rg} (hl : evL f xs.toList = some l) (hc : ∀ args w, (callFunc g args).run E.P w = .ok (.enter g args) w) (hg : rg[r]? = some gg) (ho : gg.own = true) (hob : gg.ob = none)
    (h : ∀ (N : Nums) (w : World) (args : List Value) (p : Num), N0.le N → Sat E N rg w → SV.denL N l = some args → N[r]? = some p → Calls E.P g args.toArray w (TurnRet p.b p.o p.x cs n sz w)) :
    EffOk E N0 rg f (.call { callee := .value (.func g), args := xs, argTypes := ts }) (.osl rg.length 0 n sz none) (rg.set r ⟨false, [], none⟩ ++ [⟨true, cs, none⟩]) :=
  EffOk.call hl hc fun N w args hN hS ha => by
    obtain ⟨p, hp⟩ : ∃ p, N[r]? = some p := ⟨_, List.getElem?_eq_getElem (by have := (List.getElem?_eq_some_iff.1 hg).1; rw [hS.len]; exact this)⟩
    refine (h N w args p hN hS ha hp).mono fun e w' hf => ?_
    obtain ⟨v, N', h1, h2, h3, h4⟩ := hf.sat hS hg hp ho hob
    exact ⟨v, h1, N', h2, h3, h4⟩
theorem EffOk.val {E : Env} {N0 : Nums} {rg : List Rg} {f : Fr} {op : Op} {r : SV} (h : ∀ (N : Nums) (ρ : Operand → Value) (o : Oper) (w : World), N0.le N → o.op = op → (∀ x s, ev f x = some s → s.den N = some (ρ x)) → Sat E N rg w → ∃ v, r.den N = some v ∧ (execOp ρ o).run E.P w = .ok (.value v) w) : EffOk E N0 rg f op r rg :=
  fun N ρ o w hN hop hf hS => by
    obtain ⟨v, h1, h2⟩ := h N ρ o w hN hop hf hS
    exact .inl ⟨v, w, .inl h2, N, Nums.le.refl N, h1, hS⟩
end Go.Eng

namespace Go.Eng
open Go
def Bnd (f : Fr) (g : GK) (o : Option Operand) (z : Option Nat) : Prop := match o, z with
  | none, none => True
  | some p, some n => ∃ kd s, evK f g p = some (.int kd s) ∧ (g.T → s.den = (n : Int))
  | _, _ => False
theorem Bnd.run {N : Nums} {f : Fr} {g : GK} {o : Option Operand} {z : Option Nat} {ρ : Operand → Value} (h : Bnd f g o z) (ht : g.T) (hρ : ∀ x s, evK f g x = some s → s.den N = some (ρ x)) : (o = none ∧ z = none) ∨ ∃ k n, o.map ρ = some (.int k (n : Nat)) ∧ z = some n := by
  cases o with
  | none => cases z with
    | none => exact .inl ⟨rfl, rfl⟩
    | some n => exact h.elim
  | some p => cases z with
    | none => exact h.elim
    | some n =>
      obtain ⟨kd, s, h1, h2⟩ := h
      have := hρ _ _ h1
      simp only [SV.den, h2 ht, Option.some.injEq] at this
      exact .inr ⟨kd, n, by simp [← this], rfl⟩
theorem vk_bin {E : Env} {N0 : Nums} {rg : List Rg} {f : Fr} {g : GK} {op : BinOp} {t ty : TypeId} {x y : Operand} {kd : IntKind} {s1 s2 : SI} {r r0 : SV} (hx : evK f g x = some (.int kd s1)) (hy : evK f g y = some (.int kd s2)) (h : intOp op kd (.v s1.den) (.v s2.den) = some r0) (hd : g.T → ∀ N v, r0.den N = some v → r.den N = some v) : ValOk E N0 rg f g (.binOp op t x y ty) r := by
  intro ht N ρ o w hN0 hop hρ hV
  have h1 := hρ _ _ hx
  have h2 := hρ _ _ hy
  simp only [SV.den, Option.some.injEq] at h1 h2
  obtain ⟨v, hv, _⟩ := intOp_sound (P := E.P) (w := w) (N := N) h t
  refine ⟨v, hd ht N v hv, fun w' _ => ?_⟩
  obtain ⟨v', hv', hrun⟩ := intOp_sound (P := E.P) (w := w') (N := N) h t
  rw [hv] at hv'; cases hv'
  simp only [SI.den] at hrun
  have h3 : (do eqGuard op t x y (ρ x) (ρ y); binOp op t (ρ x) (ρ y) : Sem Value).run E.P w' = .ok v w' := by
    rw [← h1, ← h2]
    simp only [Sem.run_bind]
    rw [eqGuard_none _ _ _ _ (by simp) (by simp)]
    simp [Result.andThen, hrun]
  simp only [execOp, hop]
  rw [Sem.run_bind, h3]
  rfl
theorem rep_len (z : List SV) : ∀ n, (rep n z).length = n * z.length
  | 0 => by simp [rep]
  | n + 1 => by simp [rep, rep_len z n, Nat.add_mul]; omega
end Go.Eng

namespace Go.Eng
open Go
theorem EffOk.clear {E : Env} {N0 : Nums} {T : Tab} (hT : TabOk E.P T) {rg : List Rg} {f : Fr} {x : Operand} {ts e r c n : Nat} {ti te : TI} {k : Option Nat} {g : Rg} {cs' : List SV} (hx : ev f x = some (.osl r c n te.size k)) (hti : lookT T ts = some ti) (hk : ti.kind = .slice e) (hte : lookT T e = some te) (hz : te.zero.length = te.size) (hz0 : 0 < te.size)
    (hg : rg[r]? = some g) (ho : g.own = true) (hn : n ≠ 0) (hc : c ≤ g.cells.length) (h1 : (rep n te.zero).all SV.one = true) (hp : ∀ (N : Nums) (p : Num), N0.le N → N[r]? = some p → g.cells.length ≤ p.x → c + n * te.size ≤ p.x) (hcs : cs' = setRow g.cells c (rep n te.zero)) :
    EffOk E N0 rg f (.call { callee := .builtin .clear, args := #[x], argTypes := #[ts] }) (.tup []) (rg.set r { g with cells := cs' }) := by
  intro N ρ o w hN hop hf h
  have ok := (hT.ok ts ti hti).kind
  rw [hk] at ok
  have ok' : E.P.underlying ts = some (.slice e) := ok
  have oke := hT.ok e te hte
  obtain ⟨z, hzr, hzd⟩ := oke.zero
  have hzd' : SV.denL N te.zero = some z.cells.toList := SV.denL_mono (N := []) (N' := N) (fun r p h => by simp at h) _ hzd
  have z2 : z.cells.size = te.size := by
    have := (SV.denL_get _ hzd').1
    simp at this; omega
  have hd := hf _ _ hx
  obtain ⟨p, hpn⟩ : ∃ p, N[r]? = some p := ⟨_, List.getElem?_eq_getElem (by rw [h.len]; exact (List.getElem?_eq_some_iff.1 hg).1)⟩
  have hext := h.ext r g p hg hpn ho
  have hpx := hp N p hN hpn hext
  simp only [SV.den, hpn, Option.some.injEq] at hd
  have hden := denL_rep hzd' n
  obtain ⟨w', hst, hsat⟩ := Sat.store hpn c (rep n te.zero) (repV n z.cells.toList) 0 h hg ho (by omega) (by rw [rep_len, hz]; omega) hden (one_cells h1 hden)
  have hrun : (Builtin.clear_ #[ts] o.type #[ρ x]).run E.P w = .ok (.tuple #[]) w' := by
    rw [← hd]
    simp only [Builtin.clear_, List.getElem?_toArray, List.getElem?_cons_zero, Sem.run_bind, run_underlying ok', Result.andThen]
    cases n with
    | zero => exact absurd rfl hn
    | succ n =>
      simp only [Sem.run_bind, hzr, Result.andThen, Builtin.zeroCells]
      rw [zeros_eq (by omega), hst]
      rfl
  subst hcs
  refine .inl ⟨_, w', .inl ?_, N, Nums.le.refl N, by simp only [SV.den, SV.denL]; rfl, by simpa using hsat⟩
  simp [execOp, hop, resolve, invoke, builtin, hrun]
end Go.Eng

namespace Go.Eng
open Go
theorem Sat.perm {E : Env} {N N' : Nums} {rg rg' : List Rg} {w : World} (h : Sat E N rg w) (hl : N'.length = rg'.length) (σ : Nat → Nat) (hσ : ∀ i j, σ i = σ j → i = j)
    (hm : ∀ (i : Nat) (x : Rg) (p : Num), rg'[i]? = some x → N'[i]? = some p → ∃ x0, rg[σ i]? = some x0 ∧ N[σ i]? = some p ∧ x.own = x0.own ∧ x.cells.length = x0.cells.length ∧ x.ob = none ∧ ∀ (j : Nat) (c : SV), x.cells[j]? = some c → ∃ c0, x0.cells[j]? = some c0 ∧ ∀ v, c0.den N = some v → c.den N' = some v) : Sat E N' rg' w := by
  refine { h with len := hl, lt := ?_, cell := ?_, ext := ?_, room := ?_, disj := ?_, obj := ?_, odisj := ?_, imd := ?_, dd := ?_, foot := ?_ }
  · intro i p hp
    obtain ⟨x, hx⟩ : ∃ x, rg'[i]? = some x := ⟨_, List.getElem?_eq_getElem (by have := (List.getElem?_eq_some_iff.1 hp).1; omega)⟩
    obtain ⟨x0, h1, h2, _⟩ := hm i x p hx hp
    exact h.lt _ _ h2
  · intro i x p hx hp j c hj
    obtain ⟨x0, h1, h2, _, _, _, h6⟩ := hm i x p hx hp
    obtain ⟨c0, h7, h8⟩ := h6 j c hj
    obtain ⟨v, h9, h10⟩ := h.cell _ _ _ h1 h2 j c0 h7
    exact ⟨v, h8 v h9, h10⟩
  · intro i x p hx hp ho
    obtain ⟨x0, h1, h2, h3, h4, _, _⟩ := hm i x p hx hp
    rw [h4]; exact h.ext _ _ _ h1 h2 (by rw [← h3]; exact ho)
  · intro i x p hx hp ho
    obtain ⟨x0, h1, h2, h3, h4, _, _⟩ := hm i x p hx hp
    exact h.room _ _ _ h1 h2 (by rw [← h3]; exact ho)
  · intro i i' x x' p p' hx hp hx' hp' ho hne j hj hb
    obtain ⟨x0, h1, h2, h3, h4, _, _⟩ := hm i x p hx hp
    obtain ⟨x1, k1, k2, k3, k4, _, _⟩ := hm i' x' p' hx' hp'
    exact h.disj _ _ _ _ _ _ h1 h2 k1 k2 (by rw [← h3]; exact ho) (fun e => hne (hσ _ _ e)) j (by unfold Rg.wid at hj ⊢; rw [← k3, ← k4]; exact hj) hb
  · intro i x p ob hx hp ho
    obtain ⟨x0, h1, h2, h3, h4, h5, _⟩ := hm i x p hx hp
    rw [h5] at ho; cases ho
  · intro i i' x x' p p' hx hp hx' hp' ho _ _
    obtain ⟨x0, h1, h2, h3, h4, h5, _⟩ := hm i x p hx hp
    rw [h5] at ho; cases ho
  · intro i x p hx hp ho
    obtain ⟨x0, h1, h2, h3, h4, _, _⟩ := hm i x p hx hp
    exact h.imd _ _ _ h1 h2 (by rw [← h3]; exact ho)
  · intro i x p hx hp ho
    obtain ⟨x0, h1, h2, h3, h4, _, _⟩ := hm i x p hx hp
    exact h.dd _ _ _ h1 h2 (by rw [← h3]; exact ho)
  · intro i x p hx hp ho
    obtain ⟨x0, h1, h2, h3, h4, _, _⟩ := hm i x p hx hp
    exact h.foot _ _ _ h1 h2 (by rw [← h3]; exact ho)
def CellsTo (N N' : Nums) : List SV → List SV → Prop
  | [], [] => True
  | c0 :: cs0, c :: cs => (∀ v, c0.den N = some v → c.den N' = some v) ∧ CellsTo N N' cs0 cs
  | _, _ => False
theorem CellsTo.get {N N' : Nums} : ∀ {cs0 cs : List SV}, CellsTo N N' cs0 cs → cs.length = cs0.length ∧ ∀ (j : Nat) (c : SV), cs[j]? = some c → ∃ c0, cs0[j]? = some c0 ∧ ∀ v, c0.den N = some v → c.den N' = some v
  | [], [], _ => ⟨rfl, fun j c h => by simp at h⟩
  | c0 :: cs0, c :: cs, ⟨h1, h2⟩ => by
    obtain ⟨k1, k2⟩ := CellsTo.get h2
    refine ⟨by simp [k1], fun j d hd => ?_⟩
    cases j with
    | zero => simp at hd; subst hd; exact ⟨c0, rfl, h1⟩
    | succ j => exact k2 j d (by simpa using hd)
theorem CellsTo.same {N N' : Nums} : ∀ {cs : List SV}, (∀ c ∈ cs, ∀ v, c.den N = some v → c.den N' = some v) → CellsTo N N' cs cs
  | [], _ => trivial
  | c :: cs, h => ⟨h c (by simp), CellsTo.same fun c hc => h c (by simp [hc])⟩
end Go.Eng

namespace Go.Eng
open Go
end Go.Eng

namespace Go.Eng
open Go
end Go.Eng

namespace Go.Eng
open Go
abbrev ZT := List (Nat × SV)
def lookZ : ZT → Nat → Option SV
  | [], _ => none
  | (k, v) :: r, t => bif Nat.beq k t then some v else lookZ r t
def ZOk (P : Program) : ZT → Prop
  | [] => True
  | (t, s) :: r => (∃ z, (∀ w, (zeroValue t).run P w = .ok z w) ∧ ∀ N, s.den N = some z) ∧ ZOk P r
theorem ZOk.look {P : Program} : ∀ {Z : ZT}, ZOk P Z → ∀ {t : Nat} {s : SV}, lookZ Z t = some s → ∃ z, (∀ w, (zeroValue t).run P w = .ok z w) ∧ ∀ N, s.den N = some z
  | [], _, t, s, h => by simp [lookZ] at h
  | (k, v) :: r, ⟨h1, h2⟩, t, s, h => by
    simp only [lookZ] at h
    by_cases hk : k = t
    · subst hk; simp at h; subst h; exact h1
    · simp only [beq_ne hk, cond_false] at h; exact ZOk.look h2 h
end Go.Eng

namespace Go.Eng
open Go
end Go.Eng

namespace Go.Proofs.YthaffebapmkppaaGreat
open Go Go.Eng
end Go.Proofs.YthaffebapmkppaaGreat

namespace Go.Proofs.YthaffebapmkppaaGreat
open Go Go.Eng
theorem told_run {P : Program} {F : FT} (hF : FTok P F) {g : Nat} {fi : FI} (hg : FOk P g fi) (m : Nat) (ss : List SV) {args : Array Value} (ha : SV.denL [] ss = some args.toList) (hle : Nat.ble args.size fi.n = true) {l : List SV} {v : Value} (hv : ∀ N, (resV l).den N = some v)
    (h : runEnds fi.T fi.rs (runC F true m fi.T fi.B fi.n fi.rs [] [.code fi.body] ⟨argFr ss 0, []⟩) = some l) (w : World) : Calls P g args w fun e w' => e = .returned v ∧ Chg (fun _ _ => False) w w' :=
  (runR hF hg m true ss ha hle h w).mono fun e w' ⟨N, u, h1, h2, h3⟩ => by
    rw [hv N] at h2
    cases h2
    exact ⟨h1, h3⟩
structure MsgC where
  (k s t y c b1 b2 b3 : Int) (ok : Bool) (a1 a2 a3 rk ri rs : Int) (p1 : Option Addr) (n1 c1 : Nat) (p2 : Option Addr) (n2 c2 : Nat) (p3 : Option Addr) (n3 c3 : Nat) (rl : Int) (p4 : Option Addr) (n4 c4 : Nat) (x1 x2 x3 mx : Int)
def MsgC.vals (m : MsgC) : List Value := [.int .u8 m.k, .int .u8 m.s, .int .u8 m.t, .int .u8 m.y, .int .u64 m.c, .int .u64 m.b1, .int .u8 m.b2, .int .u32 m.b3, .bool m.ok, .int .u64 m.a1, .int .u8 m.a2, .int .u32 m.a3, .int .u8 m.rk, .int .u64 m.ri, .int .i64 m.rs, .slice m.p1 m.n1 m.c1, .slice m.p2 m.n2 m.c2, .slice m.p3 m.n3 m.c3, .int .u64 m.rl, .slice m.p4 m.n4 m.c4, .int .u64 m.x1, .int .u8 m.x2, .int .u32 m.x3, .int .u64 m.mx]
def MsgC.reg (m : MsgC) : List Value := [.int .u8 m.rk, .int .u64 m.ri, .int .i64 m.rs, .slice m.p1 m.n1 m.c1, .slice m.p2 m.n2 m.c2, .slice m.p3 m.n3 m.c3, .int .u64 m.rl, .slice m.p4 m.n4 m.c4]
theorem MsgP.cells {x : MsgP} {M : Mem} {vs : List Value} (h : RepL M x.toD vs) : ∃ m : MsgC, vs = m.vals ∧ RepL M x.reg.toD m.reg := by
  obtain ⟨rv, rfl, hr⟩ := MsgP.open h
  obtain ⟨p1, c1, p2, c2, p3, c3, p4, c4, rfl, _⟩ := RegP.open hr
  exact ⟨⟨x.kind, x.sender, x.to, x.key, x.conf, x.b.count, x.b.node, x.b.life, x.ok, x.acc.count, x.acc.node, x.acc.life, x.reg.kind, x.reg.inc, x.reg.state, p1, _, c1, p2, _, c2, p3, _, c3, x.reg.last, p4, _, c4, x.next.count, x.next.node, x.next.life, x.max⟩, rfl, hr⟩
end Go.Proofs.YthaffebapmkppaaGreat

namespace Go.Proofs.YthaffebapmkppaaGreat
open Go Go.Eng Go.Sort
def AtA (w : World) (b y : Nat) (d : Array Int) : Prop := ∀ k, k < d.size → w.cell? ⟨b, y + k, none⟩ = some (.int .u8 d[k]!) ∧ w.frozen? ⟨b, y + k, none⟩ = false
def arrM (m0 : Mem) (b y : Nat) (d : Array Int) : Mem := fun k o => if k = b ∧ y ≤ o ∧ o < y + d.size then some (.int .u8 d[o - y]!) else m0 k o
theorem arrM_in {m0 : Mem} {b y i : Nat} {d : Array Int} (h : i < d.size) : arrM m0 b y d b (y + i) = some (.int .u8 d[i]!) := by
  unfold arrM
  rw [if_pos (by omega), Nat.add_sub_cancel_left]
theorem arrM_some {m0 : Mem} {b y k o : Nat} {d : Array Int} {v : Value} (h : arrM m0 b y d k o = some v) : ((k = b ∧ y ≤ o ∧ o < y + d.size) ∧ v = .int .u8 d[o - y]!) ∨ (¬ (k = b ∧ y ≤ o ∧ o < y + d.size) ∧ m0 k o = some v) := by
  unfold arrM at h
  by_cases e : k = b ∧ y ≤ o ∧ o < y + d.size
  · rw [if_pos e] at h
    exact .inl ⟨e, (Option.some.inj h).symm⟩
  · rw [if_neg e] at h
    exact .inr ⟨e, h⟩
theorem AtA.stays {w w' : World} {b y : Nat} {d : Array Int} (h : AtA w b y d) (hc : Chg (fun _ _ => False) w w') : AtA w' b y d := fun k hk => by
  obtain ⟨h1, h2⟩ := h k hk
  exact ⟨cell_of_chg hc (by simp) h1, by rw [frozen_of_chg hc _ (by rw [h1]; rfl)]; exact h2⟩
@[reducible] noncomputable def aE (P : Program) (fn : Func) (Q : Ending → World → Prop) (w : World) (b y n : Nat) (m0 : Mem) (d : Array Int) (N0 : Nums) (B : SchT) : Ctx :=
  mkE P fn Q w (arrD b y n) (arrM m0 b y d) (arrD b y n) (fun _ => True) N0 B
def arrD2 (b y n i j : Nat) : Nat → Nat → Prop := fun k o => k = b ∧ y ≤ o ∧ o < y + n ∧ o ≠ y + i ∧ o ≠ y + j
def arrM2 (m0 : Mem) (b y i j : Nat) (d : Array Int) : Mem := fun k o => if k = b ∧ (o = y + i ∨ o = y + j) then none else arrM m0 b y d k o
theorem X.beginA {P : Program} {f : FuncId} {fn : Func} {c : Code} {args : Array Value} {w : World} {Q : Ending → World → Prop} {b y n : Nat} {d : Array Int} (hA : AtA w b y d) (hn : d.size = n) {ss : List SV} (hf : P.funcs[f]? = some fn) (hb : fn.body = some c) {B : SchT} (hreg : regsO B fn.body = true)
    (hle : Nat.ble args.size fn.ntmps = true) (ha : SV.denL [] ss = some args.toList) (h : X (aE P fn Q w b y n (wm w) d [] B) [.code c] ⟨argFr ss 0, []⟩) : Calls P f args w Q := by
  refine X.enter (aE P fn Q w b y n (wm w) d [] B) hf hb rfl rfl rfl (by rw [hb] at hreg; exact hreg) (Nat.le_of_ble_eq_true hle) ha ?_ h
  refine ⟨rfl, by simp, by simp, by simp, by simp, by simp, by simp, by simp, fun k o v hv => ?_, by simp, by simp, ?_, fun _ _ _ _ _ => trivial, trivial, Chg.refl _ _, by simp⟩
  · rcases arrM_some hv with ⟨⟨e1, e2, e3⟩, e4⟩ | ⟨_, e⟩
    · have := (hA (o - y) (by omega)).1
      rw [show y + (o - y) = o by omega] at this
      rw [e1, this, e4]
    · exact e
  · rintro k o ⟨rfl, e2, e3⟩
    have := (hA (o - y) (by omega)).1
    rw [show y + (o - y) = o by omega] at this
    exact .inl (by rw [this]; rfl)
section
variable {P : Program} {fn : Func} {Q : Ending → World → Prop} {W : World} {b y n : Nat} {m0 : Mem} {d d0 : Array Int} {N0 : Nums} {B : SchT} {k : List It} {s : St}
theorem X.take2 (hA : AtA W b y d0) (h0 : d0.size = n) (hn : d.size = n) {i j : Nat} {xi xj : Int} (hij : i ≠ j) (hi : i < n) (hj : j < n) (hxi : d[i]! = xi) (hxj : d[j]! = xj) (hrg : ∀ g ∈ s.rg, g.own = true ∨ g.cells = [])
    (h : ∀ N : Nums, N0.le N → N.length = s.rg.length → X (mkE P fn Q W (arrD b y n) (arrM2 m0 b y i j d) (arrD2 b y n i j) (fun _ => True) ((N ++ [⟨b, y + i, 1⟩]) ++ [⟨b, y + j, 1⟩]) B) k ⟨s.fr, (s.rg ++ [⟨true, [.int .u8 (.v xi)], none⟩]) ++ [⟨true, [.int .u8 (.v xj)], none⟩]⟩) :
    X (aE P fn Q W b y n m0 d N0 B) k s := by
  refine X.conv fun N a w hN hf hS => ?_
  refine ⟨mkE P fn Q W (arrD b y n) (arrM2 m0 b y i j d) (arrD2 b y n i j) (fun _ => True) ((N ++ [⟨b, y + i, 1⟩]) ++ [⟨b, y + j, 1⟩]) B, ⟨s.fr, (s.rg ++ [⟨true, [.int .u8 (.v xi)], none⟩]) ++ [⟨true, [.int .u8 (.v xj)], none⟩]⟩, rfl, rfl, rfl, rfl, ⟨_, Nums.le.refl _, (hf.mono (Nums.le_append N [⟨b, y + i, 1⟩])).mono (Nums.le_append _ _), ?_⟩, h N hN hS.len⟩
  have ci : w.cell? ⟨b, y + i, none⟩ = some (.int .u8 xi) := by rw [← hxi]; exact hS.imm _ _ _ (arrM_in (by omega))
  have cj : w.cell? ⟨b, y + j, none⟩ = some (.int .u8 xj) := by rw [← hxj]; exact hS.imm _ _ _ (arrM_in (by omega))
  have fz : ∀ q, q < n → w.frozen? ⟨b, y + q, none⟩ = false := fun q hq => by
    obtain ⟨h1, h2⟩ := hA q (by omega)
    exact frozen_stays hS.chg (by rw [h1]; rfl) h2
  have s1 : Sat { (aE P fn Q W b y n m0 d N0 B).toEnv with im := arrM2 m0 b y i j d } N s.rg w := Sat.imSay hS fun k o v hv => .inl (by
    unfold arrM2 at hv
    split at hv
    · cases hv
    · exact hv)
  have s2 := s1.focus (b := b) (o := y + i) (cs := [.int .u8 (.v xi)]) (fun k o => arrD b y n k o ∧ o ≠ y + i) (fun _ => True) (World.block_lt_of_cell? _ _ ci)
    (fun q c hq => by cases q with
      | zero => simp at hq; subst hq; exact ⟨_, rfl, ci⟩
      | succ q => simp at hq)
    (fun q hq => by simp at hq; subst hq; exact fz i hi) (fun q hq => by simp at hq; subst hq; exact ⟨rfl, by omega, by omega⟩)
    (fun k o ⟨h1, h2⟩ => ⟨h1, by simp; intro _ _; omega⟩) (.inr fun q hq => by simp at hq; subst hq; exact ⟨rfl, by omega, by omega⟩)
    (fun q hq => by simp at hq; subst hq; simp [arrM2]) hrg (fun _ _ _ _ _ => trivial) trivial
  have s3 := s2.focus (b := b) (o := y + j) (cs := [.int .u8 (.v xj)]) (arrD2 b y n i j) (fun _ => True) (World.block_lt_of_cell? _ _ cj)
    (fun q c hq => by cases q with
      | zero => simp at hq; subst hq; exact ⟨_, rfl, cj⟩
      | succ q => simp at hq)
    (fun q hq => by simp at hq; subst hq; exact fz j hj) (fun q hq => by simp at hq; subst hq; exact ⟨⟨rfl, by omega, by omega⟩, by omega⟩)
    (fun k o ⟨h1, h2, h3, h4, h5⟩ => ⟨⟨⟨h1, h2, h3⟩, h4⟩, by simp; intro _ _; omega⟩) (.inr fun q hq => by simp at hq; subst hq; exact ⟨rfl, by omega, by omega⟩)
    (fun q hq => by simp at hq; subst hq; simp [arrM2]) (fun g hg => by
      rcases List.mem_append.1 hg with hg | hg
      · exact hrg g hg
      · simp at hg; subst hg; exact .inl rfl) (fun _ _ _ _ _ => trivial) trivial
  exact s3
theorem swpZ_get {i j q : Nat} (hi : i < d.size) (hj : j < d.size) (hq : q < d.size) : (swp d i j)[q]! = if q = j then d[i]! else if q = i then d[j]! else d[q]! := by
  have hs : q < (swp d i j).size := by simpa [swp] using hq
  have h1 : ∀ (x : Array Int) (h : q < x.size), x[q]! = x[q] := fun x h => getElem!_pos x q h
  rw [h1 _ hs]
  simp only [swp]
  rw [Array.getElem_setIfInBounds (by simpa using hq)]
  by_cases e : q = j
  · subst e; simp
  · rw [if_neg (fun h => e h.symm), if_neg e, Array.getElem_setIfInBounds hq]
    by_cases e2 : q = i
    · subst e2; simp
    · rw [if_neg (fun h => e2 h.symm), if_neg e2, h1 _ hq]
theorem swpZ_size (d : Array Int) (i j : Nat) : (swp d i j).size = d.size := by simp [swp]
theorem X.give2 {i j r : Nat} {xi xj : Int} (hn : d.size = n) (hij : i ≠ j) (hi : i < n) (hj : j < n) (hxi : d[i]! = xi) (hxj : d[j]! = xj) {N : Nums} (h1 : s.rg[r]? = some ⟨true, [.int .u8 (.v xj)], none⟩) (h2 : s.rg[r + 1]? = some ⟨true, [.int .u8 (.v xi)], none⟩) (p1 : N[r]? = some ⟨b, y + i, 1⟩) (p2 : N[r + 1]? = some ⟨b, y + j, 1⟩)
    (h : X (aE P fn Q W b y n m0 (swp d i j) N B) k ⟨s.fr, (s.rg.set r ⟨false, [], none⟩).set (r + 1) ⟨false, [], none⟩⟩) :
    X (mkE P fn Q W (arrD b y n) (arrM2 m0 b y i j d) (arrD2 b y n i j) (fun _ => True) N B) k s := by
  refine X.conv fun N' a w hN hf hS => ?_
  refine ⟨aE P fn Q W b y n m0 (swp d i j) N B, ⟨s.fr, (s.rg.set r ⟨false, [], none⟩).set (r + 1) ⟨false, [], none⟩⟩, rfl, rfl, rfl, rfl, ⟨N', hN, hf, ?_⟩, h⟩
  have q1 := hN r _ p1
  have q2 := hN _ _ p2
  have c1 := hS.cell r _ _ h1 q1 0 _ rfl
  have c2 := hS.cell _ _ _ h2 q2 0 _ rfl
  simp only [SV.den, SI.den, Option.some.injEq, Nat.add_zero] at c1 c2
  obtain ⟨_, rfl, c1⟩ := c1
  obtain ⟨_, rfl, c2⟩ := c2
  have s1 := Sat.give hS h1 q1 rfl (fun k o => arrD2 b y n i j k o ∨ (k = b ∧ o = y + i)) (fun _ => True) (fun k o hk => hk.imp id fun ⟨e1, e2⟩ => ⟨e1, by show y + i ≤ o; omega, by show o < y + i + 1; omega⟩) (fun _ _ _ _ _ => trivial) trivial
  have h2' : (s.rg.set r ⟨false, [], none⟩)[r + 1]? = some ⟨true, [.int .u8 (.v xi)], none⟩ := by rw [List.getElem?_set_ne (by omega)]; exact h2
  have s2 := Sat.give s1 h2' q2 rfl (arrD b y n) (fun _ => True) (fun k o ⟨e1, e2, e3⟩ => by
    by_cases a1 : o = y + j
    · exact .inr ⟨e1, by show y + j ≤ o; omega, by show o < y + j + 1; omega⟩
    · by_cases a2 : o = y + i
      · exact .inl (.inr ⟨e1, a2⟩)
      · exact .inl (.inl ⟨e1, e2, e3, a2, a1⟩)) (fun _ _ _ _ _ => trivial) trivial
  refine Sat.imSay (m' := arrM m0 b y (swp d i j)) s2 fun k o v hv => ?_
  show arrM2 m0 b y i j d k o = some v ∨ _
  rcases arrM_some hv with ⟨⟨e1, e2, e3⟩, e4⟩ | ⟨e, hv⟩
  · rw [swpZ_size] at e3
    have hq : o - y < d.size := by omega
    rw [swpZ_get (by omega) (by omega) hq] at e4
    by_cases a1 : o = y + j
    · refine .inr ⟨⟨e1, e2, by omega⟩, ?_⟩
      rw [if_pos (by omega), hxi] at e4
      rw [e1, a1, c2, e4]
    · by_cases a2 : o = y + i
      · refine .inr ⟨⟨e1, e2, by omega⟩, ?_⟩
        rw [if_neg (by omega), if_pos (by omega), hxj] at e4
        rw [e1, a2, c1, e4]
      · left
        rw [if_neg (by omega), if_neg (by omega)] at e4
        unfold arrM2 arrM
        rw [if_neg (by rintro ⟨_, e | e⟩; exact a2 e; exact a1 e), if_pos ⟨e1, e2, e3⟩, e4]
  · left
    rw [swpZ_size] at e
    unfold arrM2 arrM
    rw [if_neg (by rintro ⟨e1, e2 | e2⟩ <;> exact e ⟨e1, by omega, by omega⟩), if_neg e]
    exact hv
theorem swpZ_self {i : Nat} (hi : i < d.size) : swp d i i = d := by
  apply Array.ext
  · simp [swp]
  · intro q h1 h2
    have := swpZ_get (d := d) hi hi (q := q) (by simpa [swp] using h1)
    rw [getElem!_pos _ q h1, getElem!_pos d q h2] at this
    rw [this]
    split
    · rename_i e; subst e; rw [getElem!_pos d _ hi]
    · rfl
theorem X.take1 (hA : AtA W b y d0) (h0 : d0.size = n) (hn : d.size = n) {i : Nat} {xi : Int} (hi : i < n) (hxi : d[i]! = xi) (hrg : ∀ g ∈ s.rg, g.own = true ∨ g.cells = [])
    (h : ∀ N : Nums, N0.le N → N.length = s.rg.length → X (mkE P fn Q W (arrD b y n) (arrM2 m0 b y i i d) (arrD2 b y n i i) (fun _ => True) (N ++ [⟨b, y + i, 1⟩]) B) k ⟨s.fr, s.rg ++ [⟨true, [.int .u8 (.v xi)], none⟩]⟩) :
    X (aE P fn Q W b y n m0 d N0 B) k s := by
  refine X.conv fun N a w hN hf hS => ?_
  refine ⟨mkE P fn Q W (arrD b y n) (arrM2 m0 b y i i d) (arrD2 b y n i i) (fun _ => True) (N ++ [⟨b, y + i, 1⟩]) B, ⟨s.fr, s.rg ++ [⟨true, [.int .u8 (.v xi)], none⟩]⟩, rfl, rfl, rfl, rfl, ⟨_, Nums.le.refl _, hf.mono (Nums.le_append _ _), ?_⟩, h N hN hS.len⟩
  have ci : w.cell? ⟨b, y + i, none⟩ = some (.int .u8 xi) := by rw [← hxi]; exact hS.imm _ _ _ (arrM_in (by omega))
  have fz : w.frozen? ⟨b, y + i, none⟩ = false := by
    obtain ⟨h1, h2⟩ := hA i (by omega)
    exact frozen_stays hS.chg (by rw [h1]; rfl) h2
  have s1 : Sat { (aE P fn Q W b y n m0 d N0 B).toEnv with im := arrM2 m0 b y i i d } N s.rg w := Sat.imSay hS fun k o v hv => .inl (by
    unfold arrM2 at hv
    split at hv
    · cases hv
    · exact hv)
  exact s1.focus (b := b) (o := y + i) (cs := [.int .u8 (.v xi)]) (arrD2 b y n i i) (fun _ => True) (World.block_lt_of_cell? _ _ ci)
    (fun q c hq => by cases q with
      | zero => simp at hq; subst hq; exact ⟨_, rfl, ci⟩
      | succ q => simp at hq)
    (fun q hq => by simp at hq; subst hq; exact fz) (fun q hq => by simp at hq; subst hq; exact ⟨rfl, by omega, by omega⟩)
    (fun k o ⟨h1, h2, h3, h4, h5⟩ => ⟨⟨h1, h2, h3⟩, by simp; intro _ _; omega⟩) (.inr fun q hq => by simp at hq; subst hq; exact ⟨rfl, by omega, by omega⟩)
    (fun q hq => by simp at hq; subst hq; simp [arrM2]) hrg (fun _ _ _ _ _ => trivial) trivial
theorem X.give1 {i r : Nat} {xi : Int} (hn : d.size = n) (hi : i < n) (hxi : d[i]! = xi) {N : Nums} (h1 : s.rg[r]? = some ⟨true, [.int .u8 (.v xi)], none⟩) (p1 : N[r]? = some ⟨b, y + i, 1⟩)
    (h : X (aE P fn Q W b y n m0 d N B) k ⟨s.fr, s.rg.set r ⟨false, [], none⟩⟩) :
    X (mkE P fn Q W (arrD b y n) (arrM2 m0 b y i i d) (arrD2 b y n i i) (fun _ => True) N B) k s := by
  refine X.conv fun N' a w hN hf hS => ?_
  refine ⟨aE P fn Q W b y n m0 d N B, ⟨s.fr, s.rg.set r ⟨false, [], none⟩⟩, rfl, rfl, rfl, rfl, ⟨N', hN, hf, ?_⟩, h⟩
  have q1 := hN r _ p1
  have c1 := hS.cell r _ _ h1 q1 0 _ rfl
  simp only [SV.den, SI.den, Option.some.injEq, Nat.add_zero] at c1
  obtain ⟨_, rfl, c1⟩ := c1
  have s2 := Sat.give hS h1 q1 rfl (arrD b y n) (fun _ => True) (fun k o ⟨e1, e2, e3⟩ => by
    by_cases a1 : o = y + i
    · exact .inr ⟨e1, by show y + i ≤ o; omega, by show o < y + i + 1; omega⟩
    · exact .inl ⟨e1, e2, e3, a1, a1⟩) (fun _ _ _ _ _ => trivial) trivial
  refine Sat.imSay (m' := arrM m0 b y d) s2 fun k o v hv => ?_
  show arrM2 m0 b y i i d k o = some v ∨ _
  by_cases e : k = b ∧ o = y + i
  · have hv : arrM m0 b y d k o = some v := hv
    rw [e.1, e.2, arrM_in (by omega), hxi] at hv
    exact .inr ⟨⟨e.1, by omega, by omega⟩, by rw [e.1, e.2, c1, hv]⟩
  · left
    unfold arrM2
    rw [if_neg (by rintro ⟨e1, e2 | e2⟩ <;> exact e ⟨e1, e2⟩)]
    exact hv
theorem Goes.arr {N : Nums} {dst : Option Nat} {v : Value} {w w' : World} {d' : Array Int} (hN : N0.le N) (hS : Sat (aE P fn Q W b y n m0 d N0 B).toEnv N s.rg w) (hn : d.size = n) (hn' : d'.size = n) (hA : AtA w' b y d') (hc : Chg (arrD b y n) w w') (hrg : ∀ g ∈ s.rg, g.own = true ∨ g.cells = [])
    {r : SV} (hr : r.den N = some v) {f' : Fr} (hp : putO fn.ntmps s.fr dst (.val r) = some f') (h : X (aE P fn Q W b y n m0 d' N0 B) k ⟨f', s.rg⟩) : Goes (aE P fn Q W b y n m0 d N0 B) N k s.fr dst v w' := by
  refine ⟨aE P fn Q W b y n m0 d' N0 B, N, r, s.rg, f', rfl, rfl, rfl, rfl, Nums.le.refl N, hN, ?_, hr, hp, h⟩
  have s1 : Sat { (aE P fn Q W b y n m0 d N0 B).toEnv with im := fun k o => if k = b ∧ y ≤ o ∧ o < y + n then none else m0 k o } N s.rg w := Sat.imSay hS fun k o v hv => .inl (by
    by_cases e : k = b ∧ y ≤ o ∧ o < y + n
    · rw [if_pos e] at hv; cases hv
    · rw [if_neg e] at hv
      show arrM m0 b y d k o = some v
      unfold arrM
      rw [hn, if_neg e]; exact hv)
  have s2 := Sat.turn s1 (w' := w') (D' := arrD b y n) (R' := fun _ => True) hc (fun k o h => .inr h) (fun k o h => if_pos h) hrg (fun k o hd => ⟨.inl hd, by
    obtain ⟨rfl, e2, e3⟩ := hd
    have := (hA (o - y) (by omega)).1
    rw [show y + (o - y) = o by omega] at this
    exact .inl (by rw [this]; rfl)⟩) (fun _ _ _ _ _ => trivial) trivial
  refine Sat.imSay (m' := arrM m0 b y d') s2 fun k o v hv => ?_
  rcases arrM_some hv with ⟨⟨e1, e2, e3⟩, e4⟩ | ⟨e, hv⟩
  · refine .inr ⟨⟨e1, e2, by omega⟩, ?_⟩
    have := (hA (o - y) (by omega)).1
    rw [show y + (o - y) = o by omega] at this
    rw [e1, this, e4]
  · left
    show (if k = b ∧ y ≤ o ∧ o < y + n then none else m0 k o) = some v
    rw [if_neg (by rw [← hn']; exact e)]
    exact hv
theorem Sat.arr {N : Nums} {w : World} {rg : List Rg} (hS : Sat (aE P fn Q W b y n m0 d N0 B).toEnv N rg w) (hA : AtA W b y d0) (h0 : d0.size = n) (hn : d.size = n) : AtA w b y d ∧ Chg (arrD b y n) W w := by
  refine ⟨fun q hq => ⟨hS.imm _ _ _ (arrM_in hq), ?_⟩, hS.chg⟩
  obtain ⟨h1, h2⟩ := hA q (by omega)
  exact frozen_stays hS.chg (by rw [h1]; rfl) h2
def PostA (b y n : Nat) (w : World) (d' : Array Int) : Ending → World → Prop := fun e w' => e = .returned (.tuple #[]) ∧ AtA w' b y d' ∧ Chg (arrD b y n) w w'
end
end Go.Proofs.YthaffebapmkppaaGreat

namespace Go.Proofs.YthaffebapmkppaaGreat
open Go Go.Eng Go.Sort
set_option maxRecDepth 100000 in
set_option cbv.maxSteps 100000000 in
theorem nan8_ok (x : Int) (w : World) : Calls Tryz.prog 102 #[.int .u8 x] w fun e w' => e = .returned (.bool false) ∧ Chg (fun _ _ => False) w w' := by
  refine X.begin (rg := []) (N := []) (ss := [.int .u8 (.v x)]) Tryz.func102 rfl B102_ok rfl rfl Sat.std0 ?_
  refine X.go T102_ok 400 _ rfl Tryz.results102 ?_
  conv => arg 2; cbv
  refine X.done T102_ok rfl (fun N w' v hN hS hv => ⟨fin_bool hv ?_, hS.chg.mono fun k o _ h => inR_nil h⟩)
  simp [SB.den, SI.den]
set_option maxRecDepth 100000 in
set_option cbv.maxSteps 100000000 in
theorem less8_ok (x y : Int) (w : World) : Calls Tryz.prog 157 #[.int .u8 x, .int .u8 y] w fun e w' => e = .returned (.bool (ltInt x y)) ∧ Chg (fun _ _ => False) w w' := by
  refine X.begin (rg := []) (N := []) (ss := [.int .u8 (.v x), .int .u8 (.v y)]) Tryz.func157 rfl B157_ok rfl rfl Sat.std0 ?_
  refine X.goP ([(6, .bool (.lit false))]) T157_ok 400 _ rfl Tryz.results157 (fun pr fin hpr hfin => ?_)
  conv => cbv
  refine ⟨hpr _ (.of Tryz.call102 [.int .u8 x] (.bool false) (fun _ => rfl) (fun _ => rfl) fun _ w1 _ => nan8_ok x w1), hfin _ _ ?_⟩
  refine X.done T157_ok rfl (fun N w' v hN hS hv => ⟨fin_bool hv ?_, hS.chg.mono fun k o _ h => inR_nil h⟩)
  simp only [SB.den, SI.den, ltInt]
  exact decide_eq_decide.2 Iff.rfl
theorem less_call {E : Env} (hE : E.P = Tryz.prog) {N0 : Nums} {rg : List Rg} {k : GK} {x y : Int} {q : Bool} (hq : q = ltInt x y) : CallOk E N0 rg k 157 [.int .u8 (.v x), .int .u8 (.v y)] (.bool (.v q)) := by
  refine .of (by rw [hE]; exact Tryz.call157) [.int .u8 x, .int .u8 y] (.bool q) (fun _ => rfl) (fun _ => rfl) fun _ w1 _ => ?_
  rw [hE, hq]
  exact less8_ok x y w1
set_option maxHeartbeats 4000000 in
set_option maxRecDepth 100000 in
set_option cbv.maxSteps 100000000 in
theorem ins8_ok (b y n c a e : Nat) (d : Array Int) (w : World) (hA : AtA w b y d) (hn : d.size = n) (han : a ≤ n) (hen : e ≤ n) (hbig : n < 4611686018427387904) :
    Calls Tryz.prog 151 #[.slice (some ⟨b, y, none⟩) n c, .int .i64 a, .int .i64 e] w (PostA b y n w (insertionSort ltInt d a e)) := by
  obtain ⟨F, hF⟩ : ∃ F, F = insertionSort ltInt d a e := ⟨_, rfl⟩
  rw [← hF]
  obtain ⟨p, hp⟩ : ∃ p, p = some (Addr.mk b y none) := ⟨_, rfl⟩
  rw [← hp]
  refine X.beginA hA hn (ss := [.slv p n c, .int .i64 (.nat a), .int .i64 (.nat e)]) Tryz.func151 rfl B151_ok rfl rfl ?_
  refine X.go T151_ok 400 _ rfl Tryz.results151 ?_
  conv => arg 2; cbv
  refine X.loop (fun g : {g : Nat × Array Int // g.2.size = n ∧ a + 1 ≤ g.1 ∧ g.1 ≤ n + 1 ∧ insOuter ltInt a e g.1 g.2 = F} => aE Tryz.prog Tryz.f151 _ w b y n (wm w) g.1.2 [] B151)
    (fun g => ⟨[(0, .val (.slv p n c)), (1, .val (.int .i64 (.nat a))), (2, .val (.int .i64 (.nat e))), (6, .val (.int .i64 (.nat g.1.1)))], []⟩) (fun g => n + 1 - g.1.1) (fun _ => ⟨rfl, rfl, rfl, rfl⟩)
    (fun N ac w' hN hf hS => ⟨⟨(a + 1, d), hn, Nat.le_refl _, by omega, hF.symm⟩, ?_⟩) (fun g q' hq' => ?_)
  · exact At.again hf hS (by repeat first | exact trivial | refine ⟨⟨_, rfl, .inl ⟨rfl, rfl⟩⟩, ?_⟩ | refine ⟨⟨_, rfl, .inr ⟨_, rfl, rfl⟩⟩, ?_⟩ | refine ⟨⟨_, rfl, .inr ⟨_, rfl, by simp (disch := omega) [SV.den, SI.den, wrapU, wrapD] <;> omega⟩⟩, ?_⟩) trivial
  obtain ⟨⟨i, d1⟩, hd1, hi1, hi2, hFi⟩ := g
  simp only at hd1 hi1 hi2 hFi
  show X (aE Tryz.prog Tryz.f151 _ w b y n (wm w) d1 [] B151) _ ⟨[(0, .val (.slv p n c)), (1, .val (.int .i64 (.nat a))), (2, .val (.int .i64 (.nat e))), (6, .val (.int .i64 (.nat i)))], []⟩
  refine X.go T151_ok 400 _ rfl Tryz.results151 ?_
  conv => arg 2; cbv
  refine X.cond rfl (fun hlt => ?_) (fun hge => ?_)
  · simp only [SB.T, SI.den] at hlt
    have hlt : i < e := by omega
    refine X.go T151_ok 400 _ rfl Tryz.results151 ?_
    conv => arg 2; cbv
    rw [insOuter, if_pos hlt] at hFi
    refine X.loop (fun g : {g : Nat × Array Int // g.2.size = n ∧ g.1 ≤ i ∧ insOuter ltInt a e (i + 1) (insInner ltInt a g.1 g.2) = F} => aE Tryz.prog Tryz.f151 _ w b y n (wm w) g.1.2 [] B151)
      (fun g => ⟨[(0, .val (.slv p n c)), (1, .val (.int .i64 (.nat a))), (2, .val (.int .i64 (.nat e))), (6, .val (.int .i64 (.nat i))), (7, .val (.int .i64 (.nat g.1.1)))], []⟩) (fun g => g.1.1) (fun _ => ⟨rfl, rfl, rfl, rfl⟩)
      (fun N ac w' hN hf hS => ⟨⟨(i, d1), hd1, Nat.le_refl _, hFi⟩, ?_⟩) (fun g q2 hq2 => ?_)
    · exact At.again hf hS (by repeat first | exact trivial | refine ⟨⟨_, rfl, .inl ⟨rfl, rfl⟩⟩, ?_⟩ | refine ⟨⟨_, rfl, .inr ⟨_, rfl, rfl⟩⟩, ?_⟩ | refine ⟨⟨_, rfl, .inr ⟨_, rfl, by simp (disch := omega) [SV.den, SI.den, wrapU, wrapD] <;> omega⟩⟩, ?_⟩) trivial
    obtain ⟨⟨j, d2⟩, hd2, hji, hFj⟩ := g
    simp only at hd2 hji hFj
    obtain ⟨m, hm⟩ : ∃ m, m = j - 1 := ⟨_, rfl⟩
    obtain ⟨xj, hxj⟩ : ∃ x, d2[j]! = x := ⟨_, rfl⟩
    obtain ⟨xm, hxm⟩ : ∃ x, d2[m]! = x := ⟨_, rfl⟩
    obtain ⟨t, ht⟩ : ∃ t, t = ltInt xj xm := ⟨_, rfl⟩
    obtain ⟨oj, hoj⟩ : ∃ o, o = y + j := ⟨_, rfl⟩
    obtain ⟨om, hom⟩ : ∃ o, o = y + m := ⟨_, rfl⟩
    show X (aE Tryz.prog Tryz.f151 _ w b y n (wm w) d2 [] B151) _ ⟨[(0, .val (.slv p n c)), (1, .val (.int .i64 (.nat a))), (2, .val (.int .i64 (.nat e))), (6, .val (.int .i64 (.nat i))), (7, .val (.int .i64 (.nat j)))], []⟩
    refine X.goP ([(22, .ext b oj 0), (23, .int .u8 (.v xj)), (27, .ext b om 0), (28, .int .u8 (.v xm)), (29, .bool (.v t))]) T151_ok 400 _ rfl Tryz.results151 (fun pr fin hpr hfin => ?_)
    conv => cbv
    refine ⟨hpr _ (less_call rfl ht), hpr _ (ValOk.im1 rfl Tryz.isAgg5 (fun _ => rfl) fun hT => (by have hT : _ = true := hT; simp [SB.den, SI.den] at hT; (try replace hT := of_decide_eq_true hT); (try simp (disch := omega) only [SI.den, wrapN] at hT); rw [← hxm, hom]; exact arrM_in (by omega))), hpr _ (ValOk.im1 rfl Tryz.isAgg5 (fun _ => rfl) fun hT => (by have hT : _ = true := hT; simp [SB.den, SI.den] at hT; (try replace hT := of_decide_eq_true hT); (try simp (disch := omega) only [SI.den, wrapN] at hT); rw [← hxj, hoj]; exact arrM_in (by omega))), hpr _ (ValOk.at (z := m) rfl rfl (fun hT => by have hT : _ = true := hT; simp [SB.den, SI.den] at hT; (try replace hT := of_decide_eq_true hT); (try simp (disch := omega) only [SI.den, wrapN] at hT); first | omega | (simp (disch := omega) only [SI.den, wrapN] <;> omega)) Tryz.underlying23 Tryz.sizeOf5 (fun hT => by have hT : _ = true := hT; simp [SB.den, SI.den] at hT; (try replace hT := of_decide_eq_true hT); (try simp (disch := omega) only [SI.den, wrapN] at hT); first | omega | (simp (disch := omega) only [SI.den, wrapN] <;> omega)) hp (by omega)), hpr _ (ValOk.at (z := j) rfl rfl (fun hT => by have hT : _ = true := hT; simp [SB.den, SI.den] at hT; (try replace hT := of_decide_eq_true hT); (try simp (disch := omega) only [SI.den, wrapN] at hT); first | omega | (simp (disch := omega) only [SI.den, wrapN] <;> omega)) Tryz.underlying23 Tryz.sizeOf5 (fun hT => by have hT : _ = true := hT; simp [SB.den, SI.den] at hT; (try replace hT := of_decide_eq_true hT); (try simp (disch := omega) only [SI.den, wrapN] at hT); first | omega | (simp (disch := omega) only [SI.den, wrapN] <;> omega)) hp (by omega)), hfin _ _ ?_⟩
    refine X.cond rfl (fun hlt2 => ?_) (fun hge2 => ?_)
    · simp only [SB.T, SI.den] at hlt2
      obtain ⟨hja, htt⟩ := hlt2
      have hjm : j = m + 1 := by omega
      refine X.take2 hA hn hd2 (i := j) (j := m) (by omega) (by omega) (by omega) hxj hxm (by simp) (fun N1 _ hN1 => ?_)
      have g0 : ((N1 ++ [⟨b, y + j, 1⟩]) ++ [⟨b, y + m, 1⟩] : Nums)[0]? = some ⟨b, y + j, 1⟩ := num_old (num_last hN1)
      have g1 : ((N1 ++ [⟨b, y + j, 1⟩]) ++ [⟨b, y + m, 1⟩] : Nums)[1]? = some ⟨b, y + m, 1⟩ := num_last (by simp [hN1])
      refine X.goP ([(41, .own 1 0), (45, .own 0 0), (47, .own 0 0), (48, .own 1 0)]) T151_ok 400 _ rfl Tryz.results151 (fun pr fin hpr hfin => ?_)
      conv => cbv
      refine ⟨hpr _ (ValOk.row (z := m) rfl rfl (fun _ => by first | rfl | (simp (disch := omega) only [SB.den, SI.den, wrapN] <;> omega)) Tryz.underlying23 Tryz.sizeOf5 (by omega) hp g1 rfl (by simp)), hpr _ (ValOk.row (z := j) rfl rfl (fun _ => by first | rfl | (simp (disch := omega) only [SB.den, SI.den, wrapN] <;> omega)) Tryz.underlying23 Tryz.sizeOf5 (by omega) hp g0 rfl (by simp)), hpr _ (ValOk.row (z := j) rfl rfl (fun _ => by first | rfl | (simp (disch := omega) only [SB.den, SI.den, wrapN] <;> omega)) Tryz.underlying23 Tryz.sizeOf5 (by omega) hp g0 rfl (by simp)), hpr _ (ValOk.row (z := m) rfl rfl (fun _ => by first | rfl | (simp (disch := omega) only [SB.den, SI.den, wrapN] <;> omega)) Tryz.underlying23 Tryz.sizeOf5 (by omega) hp g1 rfl (by simp)), hfin _ _ ?_⟩
      refine X.give2 (i := j) (j := m) (r := 0) hd2 (by omega) (by omega) (by omega) hxj hxm rfl rfl g0 g1 ?_
      refine X.back (fun N ac w' hN hf hS => hq2 ⟨(m, swp d2 j m), by rw [swpZ_size]; exact hd2, by omega, ?_⟩ ac w' (by simp only; omega) ?_)
      · rw [← hFj, hjm, insInner, if_pos ?_]
        rw [← hjm, hxj, hxm, ← ht, htt]
        simp; omega
      · exact At.again hf hS (by repeat first | exact trivial | refine ⟨⟨_, rfl, .inl ⟨rfl, rfl⟩⟩, ?_⟩ | refine ⟨⟨_, rfl, .inr ⟨_, rfl, rfl⟩⟩, ?_⟩ | refine ⟨⟨_, rfl, .inr ⟨_, rfl, by simp (disch := omega) [SV.den, SI.den, wrapU, wrapD] <;> omega⟩⟩, ?_⟩) trivial
    · refine X.go T151_ok 400 _ rfl Tryz.results151 ?_
      conv => arg 2; cbv
      refine X.back (fun N ac w' hN hf hS => hq' ⟨(i + 1, d2), hd2, by omega, by omega, ?_⟩ ac w' (by simp only; omega) ?_)
      · simp only [SB.F, SI.den] at hge2
        rw [← hFj]
        cases j with
        | zero => rw [insInner]
        | succ j =>
          rw [insInner, if_neg ?_]
          obtain rfl : m = j := by omega
          rw [hxj, hxm, ← ht]
          rcases hge2 with h | h
          · simp; omega
          · simp [h]
      · exact At.again hf hS (by repeat first | exact trivial | refine ⟨⟨_, rfl, .inl ⟨rfl, rfl⟩⟩, ?_⟩ | refine ⟨⟨_, rfl, .inr ⟨_, rfl, rfl⟩⟩, ?_⟩ | refine ⟨⟨_, rfl, .inr ⟨_, rfl, by simp (disch := omega) [SV.den, SI.den, wrapU, wrapD] <;> omega⟩⟩, ?_⟩) trivial
  simp only [SB.F, SI.den] at hge
  refine X.go T151_ok 400 _ rfl Tryz.results151 ?_
  conv => arg 2; cbv
  refine X.over T151_ok rfl (fun N w' v hN hS hv => ⟨?_, ?_⟩)
  · simp only [resV, SV.den, SV.denL, Option.some.injEq] at hv
    rw [← hv]
  · rw [insOuter, if_neg (by omega)] at hFi
    rw [← hFi]
    exact Sat.arr hS hA hn hd1
end Go.Proofs.YthaffebapmkppaaGreat

namespace Go.Proofs.YthaffebapmkppaaGreat
open Go Go.Eng Go.Sort
set_option maxHeartbeats 4000000 in
set_option maxRecDepth 100000 in
set_option cbv.maxSteps 100000000 in
theorem rev8_ok (b y n c a e : Nat) (d : Array Int) (w : World) (hA : AtA w b y d) (hn : d.size = n) (han : a ≤ n) (hen : e ≤ n) (he1 : 1 ≤ e) (hbig : n < 4611686018427387904) :
    Calls Tryz.prog 155 #[.slice (some ⟨b, y, none⟩) n c, .int .i64 a, .int .i64 e] w (PostA b y n w (reverseRange d a e)) := by
  obtain ⟨F, hF⟩ : ∃ F, F = reverseRange d a e := ⟨_, rfl⟩
  rw [← hF]
  obtain ⟨p, hp⟩ : ∃ p, p = some (Addr.mk b y none) := ⟨_, rfl⟩
  rw [← hp]
  refine X.beginA hA hn (ss := [.slv p n c, .int .i64 (.nat a), .int .i64 (.nat e)]) Tryz.func155 rfl B155_ok rfl rfl ?_
  refine X.go T155_ok 400 _ rfl Tryz.results155 ?_
  conv => arg 2; cbv
  refine X.loop (fun g : {g : (Nat × Nat) × Array Int // g.2.size = n ∧ g.1.1 ≤ n ∧ g.1.2 < n ∧ reverseLoop g.1.1 g.1.2 g.2 = F} => aE Tryz.prog Tryz.f155 _ w b y n (wm w) g.1.2 [] B155)
    (fun g => ⟨[(0, .val (.slv p n c)), (6, .val (.int .i64 (.nat g.1.1.1))), (7, .val (.int .i64 (.nat g.1.1.2)))], []⟩) (fun g => n - g.1.1.1) (fun _ => ⟨rfl, rfl, rfl, rfl⟩)
    (fun N ac w' hN hf hS => ⟨⟨((a, e - 1), d), hn, han, by simp only; omega, hF.symm⟩, ?_⟩) (fun g q hq => ?_)
  · exact At.again hf hS (by repeat first | exact trivial | refine ⟨⟨_, rfl, .inl ⟨rfl, rfl⟩⟩, ?_⟩ | refine ⟨⟨_, rfl, .inr ⟨_, rfl, rfl⟩⟩, ?_⟩ | refine ⟨⟨_, rfl, .inr ⟨_, rfl, by simp (disch := omega) [SV.den, SI.den, wrapU, wrapD] <;> omega⟩⟩, ?_⟩) trivial
  obtain ⟨⟨⟨i, j⟩, d1⟩, hd1, hi, hj, hFi⟩ := g
  simp only at hd1 hi hj hFi
  obtain ⟨xi, hxi⟩ : ∃ x, d1[i]! = x := ⟨_, rfl⟩
  obtain ⟨xj, hxj⟩ : ∃ x, d1[j]! = x := ⟨_, rfl⟩
  show X (aE Tryz.prog Tryz.f155 _ w b y n (wm w) d1 [] B155) _ ⟨[(0, .val (.slv p n c)), (6, .val (.int .i64 (.nat i))), (7, .val (.int .i64 (.nat j)))], []⟩
  refine X.go T155_ok 400 _ rfl Tryz.results155 ?_
  conv => arg 2; cbv
  refine X.cond rfl (fun hlt => ?_) (fun hge => ?_)
  · simp only [SB.T, SI.den] at hlt
    have hlt : i < j := by omega
    refine X.take2 hA hn hd1 (i := i) (j := j) (by omega) (by omega) (by omega) hxi hxj (by simp) (fun N1 _ hN1 => ?_)
    have g0 : ((N1 ++ [⟨b, y + i, 1⟩]) ++ [⟨b, y + j, 1⟩] : Nums)[0]? = some ⟨b, y + i, 1⟩ := num_old (num_last hN1)
    have g1 : ((N1 ++ [⟨b, y + i, 1⟩]) ++ [⟨b, y + j, 1⟩] : Nums)[1]? = some ⟨b, y + j, 1⟩ := num_last (by simp [hN1])
    refine X.goP ([(20, .own 1 0), (24, .own 0 0), (26, .own 0 0), (27, .own 1 0)]) T155_ok 400 _ rfl Tryz.results155 (fun pr fin hpr hfin => ?_)
    conv => cbv
    refine ⟨hpr _ (ValOk.row (z := j) rfl rfl (fun _ => by first | rfl | (simp (disch := omega) only [SB.den, SI.den, wrapN] <;> omega)) Tryz.underlying23 Tryz.sizeOf5 (by omega) hp g1 rfl (by simp)), hpr _ (ValOk.row (z := i) rfl rfl (fun _ => by first | rfl | (simp (disch := omega) only [SB.den, SI.den, wrapN] <;> omega)) Tryz.underlying23 Tryz.sizeOf5 (by omega) hp g0 rfl (by simp)), hpr _ (ValOk.row (z := i) rfl rfl (fun _ => by first | rfl | (simp (disch := omega) only [SB.den, SI.den, wrapN] <;> omega)) Tryz.underlying23 Tryz.sizeOf5 (by omega) hp g0 rfl (by simp)), hpr _ (ValOk.row (z := j) rfl rfl (fun _ => by first | rfl | (simp (disch := omega) only [SB.den, SI.den, wrapN] <;> omega)) Tryz.underlying23 Tryz.sizeOf5 (by omega) hp g1 rfl (by simp)), hfin _ _ ?_⟩
    refine X.give2 (i := i) (j := j) (r := 0) hd1 (by omega) (by omega) (by omega) hxi hxj rfl rfl g0 g1 ?_
    refine X.back (fun N ac w' hN hf hS => hq ⟨((i + 1, j - 1), swp d1 i j), by rw [swpZ_size]; exact hd1, by simp only; omega, by simp only; omega, ?_⟩ ac w' (by simp only; omega) ?_)
    · rw [← hFi]; conv => rhs; rw [reverseLoop, if_pos hlt]
    · exact At.again hf hS (by repeat first | exact trivial | refine ⟨⟨_, rfl, .inl ⟨rfl, rfl⟩⟩, ?_⟩ | refine ⟨⟨_, rfl, .inr ⟨_, rfl, rfl⟩⟩, ?_⟩ | refine ⟨⟨_, rfl, .inr ⟨_, rfl, by simp (disch := omega) [SV.den, SI.den, wrapU, wrapD] <;> omega⟩⟩, ?_⟩) trivial
  simp only [SB.F, SI.den] at hge
  refine X.go T155_ok 400 _ rfl Tryz.results155 ?_
  conv => arg 2; cbv
  refine X.over T155_ok rfl (fun N w' v hN hS hv => ⟨?_, ?_⟩)
  · simp only [resV, SV.den, SV.denL, Option.some.injEq] at hv
    rw [← hv]
  · rw [reverseLoop, if_neg (by omega)] at hFi
    rw [← hFi]
    exact Sat.arr hS hA hn hd1
set_option maxHeartbeats 4000000 in
set_option maxRecDepth 100000 in
set_option cbv.maxSteps 100000000 in
theorem sift8_ok (b y n c r0 hi f : Nat) (d : Array Int) (w : World) (hA : AtA w b y d) (hn : d.size = n) (hr0 : r0 ≤ n) (hfh : f + hi ≤ n) (hbig : n < 4611686018427387904) :
    Calls Tryz.prog 181 #[.slice (some ⟨b, y, none⟩) n c, .int .i64 r0, .int .i64 hi, .int .i64 f] w (PostA b y n w (siftDown ltInt hi f r0 d)) := by
  obtain ⟨F, hF⟩ : ∃ F, F = siftDown ltInt hi f r0 d := ⟨_, rfl⟩
  rw [← hF]
  obtain ⟨p, hp⟩ : ∃ p, p = some (Addr.mk b y none) := ⟨_, rfl⟩
  rw [← hp]
  refine X.beginA hA hn (ss := [.slv p n c, .int .i64 (.nat r0), .int .i64 (.nat hi), .int .i64 (.nat f)]) Tryz.func181 rfl B181_ok rfl rfl ?_
  refine X.go T181_ok 400 _ rfl Tryz.results181 ?_
  conv => arg 2; cbv
  refine X.loop (fun g : {g : Nat × Array Int // g.2.size = n ∧ g.1 ≤ n ∧ siftDown ltInt hi f g.1 g.2 = F} => aE Tryz.prog Tryz.f181 _ w b y n (wm w) g.1.2 [] B181)
    (fun g => ⟨[(0, .val (.slv p n c)), (2, .val (.int .i64 (.nat hi))), (3, .val (.int .i64 (.nat f))), (8, .val (.int .i64 (.nat g.1.1)))], []⟩) (fun g => n - g.1.1) (fun _ => ⟨rfl, rfl, rfl, rfl⟩)
    (fun N ac w' hN hf hS => ⟨⟨(r0, d), hn, hr0, hF.symm⟩, ?_⟩) (fun g q hq => ?_)
  · exact At.again hf hS (by repeat first | exact trivial | refine ⟨⟨_, rfl, .inl ⟨rfl, rfl⟩⟩, ?_⟩ | refine ⟨⟨_, rfl, .inr ⟨_, rfl, rfl⟩⟩, ?_⟩ | refine ⟨⟨_, rfl, .inr ⟨_, rfl, by simp (disch := omega) [SV.den, SI.den, wrapU, wrapD] <;> omega⟩⟩, ?_⟩) trivial
  obtain ⟨⟨root, d1⟩, hd1, hroot, hFi⟩ := g
  simp only at hd1 hroot hFi
  show X (aE Tryz.prog Tryz.f181 _ w b y n (wm w) d1 [] B181) _ ⟨[(0, .val (.slv p n c)), (2, .val (.int .i64 (.nat hi))), (3, .val (.int .i64 (.nat f))), (8, .val (.int .i64 (.nat root)))], []⟩
  refine X.go T181_ok 400 _ rfl Tryz.results181 ?_
  conv => arg 2; cbv
  obtain ⟨ch, hch⟩ : ∃ k, k = 2 * root + 1 := ⟨_, rfl⟩
  refine X.reval 9 (.int .i64 (.nat ch)) rfl (fun N _ v hv => by rw [← hv]; simp (disch := omega) only [SV.den, SI.den, wrapN, Int.tdiv_eq_ediv_of_nonneg, Option.some.injEq, Value.int.injEq, true_and] <;> omega) ?_
  rw [siftDown, ← hch] at hFi
  refine X.cond rfl (fun hge => ?_) (fun hlt => ?_)
  · simp (disch := omega) only [SB.T, SI.den, wrapN] at hge
    refine X.go T181_ok 400 _ rfl Tryz.results181 ?_
    conv => arg 2; cbv
    refine X.over T181_ok rfl (fun N w' v hN hS hv => ⟨?_, ?_⟩)
    · simp only [resV, SV.den, SV.denL, Option.some.injEq] at hv
      rw [← hv]
    · rw [dif_pos (by omega)] at hFi
      rw [← hFi]
      exact Sat.arr hS hA hn hd1
  simp (disch := omega) only [SB.F, SI.den, wrapN] at hlt
  have hlt : ch < hi := by omega
  rw [dif_neg (by omega)] at hFi
  obtain ⟨x1, hx1⟩ : ∃ x, d1[f + ch]! = x := ⟨_, rfl⟩
  obtain ⟨x2, hx2⟩ : ∃ x, d1[f + ch + 1]! = x := ⟨_, rfl⟩
  obtain ⟨t, ht⟩ : ∃ t, t = ltInt x1 x2 := ⟨_, rfl⟩
  obtain ⟨o1, ho1⟩ : ∃ o, o = y + (f + ch) := ⟨_, rfl⟩
  obtain ⟨o2, ho2⟩ : ∃ o, o = y + (f + ch + 1) := ⟨_, rfl⟩
  refine X.goP ([(26, .ext b o1 0), (27, .int .u8 (.v x1)), (33, .ext b o2 0), (34, .int .u8 (.v x2)), (35, .bool (.v t))]) T181_ok 400 _ rfl Tryz.results181 (fun pr fin hpr hfin => ?_)
  conv => cbv
  refine ⟨hpr _ (less_call rfl ht), hpr _ (ValOk.im1 rfl Tryz.isAgg5 (fun _ => rfl) fun hT => (by have hT : _ = true := hT; simp [SB.den, SI.den] at hT; (try replace hT := of_decide_eq_true hT); (try simp (disch := omega) only [SI.den, wrapN] at hT); rw [← hx2, ho2]; exact arrM_in (by omega))), hpr _ (ValOk.im1 rfl Tryz.isAgg5 (fun _ => rfl) fun hT => (by have hT : _ = true := hT; simp [SB.den, SI.den] at hT; (try replace hT := of_decide_eq_true hT); (try simp (disch := omega) only [SI.den, wrapN] at hT); rw [← hx1, ho1]; exact arrM_in (by omega))), hpr _ (ValOk.at (z := f+ch+1) rfl rfl (fun hT => by have hT : _ = true := hT; simp [SB.den, SI.den] at hT; (try replace hT := of_decide_eq_true hT); (try simp (disch := omega) only [SI.den, wrapN] at hT); first | omega | (simp (disch := omega) only [SI.den, wrapN] <;> omega)) Tryz.underlying23 Tryz.sizeOf5 (fun hT => by have hT : _ = true := hT; simp [SB.den, SI.den] at hT; (try replace hT := of_decide_eq_true hT); (try simp (disch := omega) only [SI.den, wrapN] at hT); first | omega | (simp (disch := omega) only [SI.den, wrapN] <;> omega)) hp (by omega)), hpr _ (ValOk.at (z := f+ch) rfl rfl (fun hT => by have hT : _ = true := hT; simp [SB.den, SI.den] at hT; (try replace hT := of_decide_eq_true hT); (try simp (disch := omega) only [SI.den, wrapN] at hT); first | omega | (simp (disch := omega) only [SI.den, wrapN] <;> omega)) Tryz.underlying23 Tryz.sizeOf5 (fun hT => by have hT : _ = true := hT; simp [SB.den, SI.den] at hT; (try replace hT := of_decide_eq_true hT); (try simp (disch := omega) only [SI.den, wrapN] at hT); first | omega | (simp (disch := omega) only [SI.den, wrapN] <;> omega)) hp (by omega)), hfin _ _ ?_⟩
  refine X.cond rfl (fun hc => ?_) (fun hc => ?_)
  · simp (disch := omega) only [SB.T, SI.den, wrapN] at hc
    obtain ⟨hc1, hc2⟩ := hc
    rw [hx1, hx2, ← ht, hc2, if_pos (by simp; omega), show 2 * root + 2 = ch + 1 by omega] at hFi
    have hFc : (if (!ltInt d1[f + root]! d1[f + (ch + 1)]!) = true then d1 else siftDown ltInt hi f (ch + 1) (swp d1 (f + root) (f + (ch + 1)))) = F := by
      rw [← hFi]
      split
      · rfl
      · rw [dif_pos (by omega)]
    obtain ⟨c1, hc1'⟩ : ∃ k, k = ch + 1 := ⟨_, rfl⟩
    rw [← hc1'] at hFc
    refine X.go T181_ok 4 _ rfl Tryz.results181 ?_
    conv => arg 2; cbv
    refine X.reval 9 (.int .i64 (.nat c1)) rfl (fun N _ v hv => by rw [← hv]; simp (disch := omega) only [SV.den, SI.den, wrapN, Int.tdiv_eq_ediv_of_nonneg, Option.some.injEq, Value.int.injEq, true_and] <;> omega) ?_
    obtain ⟨xr, hxr⟩ : ∃ x, d1[f + root]! = x := ⟨_, rfl⟩
    obtain ⟨xc, hxc⟩ : ∃ x, d1[f + c1]! = x := ⟨_, rfl⟩
    obtain ⟨t2, ht2⟩ : ∃ t, t = ltInt xr xc := ⟨_, rfl⟩
    obtain ⟨or, hor⟩ : ∃ o, o = y + (f + root) := ⟨_, rfl⟩
    obtain ⟨oc, hoc⟩ : ∃ o, o = y + (f + c1) := ⟨_, rfl⟩
    refine X.goP ([(43, .ext b or 0), (44, .int .u8 (.v xr)), (49, .ext b oc 0), (50, .int .u8 (.v xc)), (51, .bool (.v t2))]) T181_ok 400 _ rfl Tryz.results181 (fun pr fin hpr hfin => ?_)
    conv => cbv
    refine ⟨hpr _ (less_call rfl ht2), hpr _ (ValOk.im1 rfl Tryz.isAgg5 (fun _ => rfl) fun _ => (by rw [← hxc, hoc]; exact arrM_in (by omega))), hpr _ (ValOk.im1 rfl Tryz.isAgg5 (fun _ => rfl) fun _ => (by rw [← hxr, hor]; exact arrM_in (by omega))), hpr _ (ValOk.at (z := f+c1) rfl rfl (fun _ => by first | rfl | (simp (disch := omega) only [SB.den, SI.den, wrapN] <;> omega)) Tryz.underlying23 Tryz.sizeOf5 (fun _ => by omega) hp (by omega)), hpr _ (ValOk.at (z := f+root) rfl rfl (fun _ => by first | rfl | (simp (disch := omega) only [SB.den, SI.den, wrapN] <;> omega)) Tryz.underlying23 Tryz.sizeOf5 (fun _ => by omega) hp (by omega)), hfin _ _ ?_⟩
    refine X.cond rfl (fun hr => ?_) (fun hr => ?_)
    · simp only [SB.T, SB.F] at hr
      subst hr
      refine X.go T181_ok 400 _ rfl Tryz.results181 ?_
      conv => arg 2; cbv
      refine X.done T181_ok rfl (fun N w' v hN hS hv => ⟨?_, ?_⟩)
      · simp only [resV, SV.den, SV.denL, Option.some.injEq] at hv
        rw [← hv]
      · rw [hxr, hxc, ← ht2] at hFc
        simp only [Bool.not_false, if_true] at hFc
        rw [← hFc]
        exact Sat.arr hS hA hn hd1
    · simp only [SB.T, SB.F] at hr
      subst hr
      refine X.take2 hA hn hd1 (i := f + root) (j := f + c1) (by omega) (by omega) (by omega) hxr hxc (by simp) (fun N1 _ hN1 => ?_)
      have g0 : ((N1 ++ [⟨b, y + (f + root), 1⟩]) ++ [⟨b, y + (f + c1), 1⟩] : Nums)[0]? = some ⟨b, y + (f + root), 1⟩ := num_old (num_last hN1)
      have g1 : ((N1 ++ [⟨b, y + (f + root), 1⟩]) ++ [⟨b, y + (f + c1), 1⟩] : Nums)[1]? = some ⟨b, y + (f + c1), 1⟩ := num_last (by simp [hN1])
      refine X.goP ([(65, .own 1 0), (71, .own 0 0), (73, .own 0 0), (74, .own 1 0)]) T181_ok 400 _ rfl Tryz.results181 (fun pr fin hpr hfin => ?_)
      conv => cbv
      refine ⟨hpr _ (ValOk.row (z := f+c1) rfl rfl (fun _ => by first | rfl | (simp (disch := omega) only [SB.den, SI.den, wrapN] <;> omega)) Tryz.underlying23 Tryz.sizeOf5 (by omega) hp g1 rfl (by simp)), hpr _ (ValOk.row (z := f+root) rfl rfl (fun _ => by first | rfl | (simp (disch := omega) only [SB.den, SI.den, wrapN] <;> omega)) Tryz.underlying23 Tryz.sizeOf5 (by omega) hp g0 rfl (by simp)), hpr _ (ValOk.row (z := f+root) rfl rfl (fun _ => by first | rfl | (simp (disch := omega) only [SB.den, SI.den, wrapN] <;> omega)) Tryz.underlying23 Tryz.sizeOf5 (by omega) hp g0 rfl (by simp)), hpr _ (ValOk.row (z := f+c1) rfl rfl (fun _ => by first | rfl | (simp (disch := omega) only [SB.den, SI.den, wrapN] <;> omega)) Tryz.underlying23 Tryz.sizeOf5 (by omega) hp g1 rfl (by simp)), hfin _ _ ?_⟩
      refine X.give2 (i := f + root) (j := f + c1) (r := 0) hd1 (by omega) (by omega) (by omega) hxr hxc rfl rfl g0 g1 ?_
      refine X.back (fun N ac w' hN hf hS => hq ⟨(c1, swp d1 (f + root) (f + c1)), by rw [swpZ_size]; exact hd1, by simp only; omega, ?_⟩ ac w' (by simp only; omega) ?_)
      · rw [hxr, hxc, ← ht2] at hFc
        simp only [Bool.not_true, Bool.false_eq_true, if_false] at hFc
        exact hFc
      · exact At.again hf hS (by repeat first | exact trivial | refine ⟨⟨_, rfl, .inl ⟨rfl, rfl⟩⟩, ?_⟩ | refine ⟨⟨_, rfl, .inr ⟨_, rfl, rfl⟩⟩, ?_⟩ | refine ⟨⟨_, rfl, .inr ⟨_, rfl, by simp (disch := omega) [SV.den, SI.den, wrapU, wrapD] <;> omega⟩⟩, ?_⟩) trivial
  · simp (disch := omega) only [SB.F, SI.den, wrapN] at hc
    rw [hx1, hx2, ← ht, if_neg (by rcases hc with h | h; simp; omega; simp [h])] at hFi
    have hFc : (if (!ltInt d1[f + root]! d1[f + ch]!) = true then d1 else siftDown ltInt hi f ch (swp d1 (f + root) (f + ch))) = F := by
      rw [hx1]; exact hFi
    obtain ⟨xr, hxr⟩ : ∃ x, d1[f + root]! = x := ⟨_, rfl⟩
    obtain ⟨xc, hxc⟩ : ∃ x, d1[f + ch]! = x := ⟨_, rfl⟩
    obtain ⟨t2, ht2⟩ : ∃ t, t = ltInt xr xc := ⟨_, rfl⟩
    obtain ⟨or, hor⟩ : ∃ o, o = y + (f + root) := ⟨_, rfl⟩
    obtain ⟨oc, hoc⟩ : ∃ o, o = y + (f + ch) := ⟨_, rfl⟩
    refine X.goP ([(43, .ext b or 0), (44, .int .u8 (.v xr)), (49, .ext b oc 0), (50, .int .u8 (.v xc)), (51, .bool (.v t2))]) T181_ok 400 _ rfl Tryz.results181 (fun pr fin hpr hfin => ?_)
    conv => cbv
    refine ⟨hpr _ (less_call rfl ht2), hpr _ (ValOk.im1 rfl Tryz.isAgg5 (fun _ => rfl) fun _ => (by rw [← hxc, hoc]; exact arrM_in (by omega))), hpr _ (ValOk.im1 rfl Tryz.isAgg5 (fun _ => rfl) fun _ => (by rw [← hxr, hor]; exact arrM_in (by omega))), hpr _ (ValOk.at (z := f+ch) rfl rfl (fun _ => by first | rfl | (simp (disch := omega) only [SB.den, SI.den, wrapN] <;> omega)) Tryz.underlying23 Tryz.sizeOf5 (fun _ => by omega) hp (by omega)), hpr _ (ValOk.at (z := f+root) rfl rfl (fun _ => by first | rfl | (simp (disch := omega) only [SB.den, SI.den, wrapN] <;> omega)) Tryz.underlying23 Tryz.sizeOf5 (fun _ => by omega) hp (by omega)), hfin _ _ ?_⟩
    refine X.cond rfl (fun hr => ?_) (fun hr => ?_)
    · simp only [SB.T, SB.F] at hr
      subst hr
      refine X.go T181_ok 400 _ rfl Tryz.results181 ?_
      conv => arg 2; cbv
      refine X.done T181_ok rfl (fun N w' v hN hS hv => ⟨?_, ?_⟩)
      · simp only [resV, SV.den, SV.denL, Option.some.injEq] at hv
        rw [← hv]
      · rw [hxr, hxc, ← ht2] at hFc
        simp only [Bool.not_false, if_true] at hFc
        rw [← hFc]
        exact Sat.arr hS hA hn hd1
    · simp only [SB.T, SB.F] at hr
      subst hr
      refine X.take2 hA hn hd1 (i := f + root) (j := f + ch) (by omega) (by omega) (by omega) hxr hxc (by simp) (fun N1 _ hN1 => ?_)
      have g0 : ((N1 ++ [⟨b, y + (f + root), 1⟩]) ++ [⟨b, y + (f + ch), 1⟩] : Nums)[0]? = some ⟨b, y + (f + root), 1⟩ := num_old (num_last hN1)
      have g1 : ((N1 ++ [⟨b, y + (f + root), 1⟩]) ++ [⟨b, y + (f + ch), 1⟩] : Nums)[1]? = some ⟨b, y + (f + ch), 1⟩ := num_last (by simp [hN1])
      refine X.goP ([(65, .own 1 0), (71, .own 0 0), (73, .own 0 0), (74, .own 1 0)]) T181_ok 400 _ rfl Tryz.results181 (fun pr fin hpr hfin => ?_)
      conv => cbv
      refine ⟨hpr _ (ValOk.row (z := f+ch) rfl rfl (fun _ => by first | rfl | (simp (disch := omega) only [SB.den, SI.den, wrapN] <;> omega)) Tryz.underlying23 Tryz.sizeOf5 (by omega) hp g1 rfl (by simp)), hpr _ (ValOk.row (z := f+root) rfl rfl (fun _ => by first | rfl | (simp (disch := omega) only [SB.den, SI.den, wrapN] <;> omega)) Tryz.underlying23 Tryz.sizeOf5 (by omega) hp g0 rfl (by simp)), hpr _ (ValOk.row (z := f+root) rfl rfl (fun _ => by first | rfl | (simp (disch := omega) only [SB.den, SI.den, wrapN] <;> omega)) Tryz.underlying23 Tryz.sizeOf5 (by omega) hp g0 rfl (by simp)), hpr _ (ValOk.row (z := f+ch) rfl rfl (fun _ => by first | rfl | (simp (disch := omega) only [SB.den, SI.den, wrapN] <;> omega)) Tryz.underlying23 Tryz.sizeOf5 (by omega) hp g1 rfl (by simp)), hfin _ _ ?_⟩
      refine X.give2 (i := f + root) (j := f + ch) (r := 0) hd1 (by omega) (by omega) (by omega) hxr hxc rfl rfl g0 g1 ?_
      refine X.back (fun N ac w' hN hf hS => hq ⟨(ch, swp d1 (f + root) (f + ch)), by rw [swpZ_size]; exact hd1, by simp only; omega, ?_⟩ ac w' (by simp only; omega) ?_)
      · rw [hxr, hxc, ← ht2] at hFc
        simp only [Bool.not_true, Bool.false_eq_true, if_false] at hFc
        exact hFc
      · exact At.again hf hS (by repeat first | exact trivial | refine ⟨⟨_, rfl, .inl ⟨rfl, rfl⟩⟩, ?_⟩ | refine ⟨⟨_, rfl, .inr ⟨_, rfl, rfl⟩⟩, ?_⟩ | refine ⟨⟨_, rfl, .inr ⟨_, rfl, by simp (disch := omega) [SV.den, SI.den, wrapU, wrapD] <;> omega⟩⟩, ?_⟩) trivial
end Go.Proofs.YthaffebapmkppaaGreat
