/- The symbolic executor, part 32: regions that draw their order, of which two orders are gone through. The symbolic executor, part 33: runs in which effects, too, are told ahead: what an operation makes, or writes; what is to be shown for them is collected. The symbolic executor, part 34: effects that are told: by the executor's own equation; calls that hand back a new row, or turn one. The symbolic executor, part 35: parts of slices, their bounds told; rows written behind what is known of them. The symbolic executor, part 36: 'clear'. The symbolic executor, part 37: regions told in another order. The symbolic executor, part 38: a row that is laid for a call alone (a variadic argument). The symbolic executor, part 40: channels as objects of one's own: made, asked for their length; a lone goroutine's select, send and receive. The symbolic executor, part 41: a select of one case with a default, within a region of a lone goroutine. The symbolic executor, part 42: loops unrolled, calls carried out in place, with objects of one's own. ProposeNil: the awake call, carried out by the kernel. ProposeNil. ProposeNil: the law. -/
import Derived.Test.YthaffebapmkppaaGreatRg2
import Derived.Conc.LoneSelectN
import Derived.Test.YthaffebapmkppaaGreatTab

namespace Go.Eng
open Go

/-- the orders that are gone through -/
inductive STree where
  | nil
  | q (i : Nat) (blk : List Nat) (r : STree)
  | one (i : Nat) (r : STree)
  | two (i j : Nat) (x y : STree)

def only2 (l : List Nat) (i j : Nat) : Bool := match l with
  | [a, b] => (Nat.beq a i && Nat.beq b j) || (Nat.beq a j && Nat.beq b i)
  | _ => false
theorem only2_spec {l : List Nat} {i j : Nat} (h : only2 l i j = true) : l = [i, j] ∨ l = [j, i] := by
  unfold only2 at h
  split at h
  · simp only [Bool.or_eq_true, Bool.and_eq_true] at h
    rcases h with ⟨h1, h2⟩ | ⟨h1, h2⟩
    · exact .inl (by rw [Nat.eq_of_beq_eq_true h1, Nat.eq_of_beq_eq_true h2])
    · exact .inr (by rw [Nat.eq_of_beq_eq_true h1, Nat.eq_of_beq_eq_true h2])
  · cases h

def treeOk (ops : Array Oper) : STree → Nat → Array Bool → Bool
  | .nil, m, L => Nat.beq m 0 && (Region.ready .any ops L).isEmpty
  | .q i blk r, m, L => match m with
    | 0 => false
    | m + 1 => (Region.ready .any ops L).contains i && Region.free .any ops L i && closedB ops i blk && withinB L ops.size blk && treeOk ops r m (L.setIfInBounds i true)
  | .one i r, m, L => match m with
    | 0 => false
    | m + 1 => only (Region.ready .any ops L) i && treeOk ops r m (L.setIfInBounds i true)
  | .two i j x y, m, L => match m with
    | 0 => false
    | m + 1 => only2 (Region.ready .any ops L) i j && treeOk ops x m (L.setIfInBounds i true) && treeOk ops y m (L.setIfInBounds j true)

def prL (pr : Owe → Prop) : List Owe → Prop → Prop
  | [], p => p
  | o :: os, p => pr o ∧ prL pr os p
theorem prL_spec {pr : Owe → Prop} : ∀ {os : List Owe} {p : Prop}, prL pr os p → (∀ q ∈ os, pr q) ∧ p
  | [], _, h => ⟨fun _ h => absurd h List.not_mem_nil, h⟩
  | o :: os, p, ⟨h1, h2⟩ => by
    obtain ⟨h3, h4⟩ := prL_spec h2
    exact ⟨fun q hq => by rcases List.mem_cons.1 hq with rfl | h; exact h1; exact h3 q h, h4⟩

/-- one operation, and what is behind it -/
def stepT (pr : Owe → Prop) (td : List (Nat × SV)) (T : Tab) (n : Nat) (all : Array Oper) (K : KW) (i : Nat) (c : St → Prop) (s : St) : Prop :=
  match qP td T n all s.rg i s.fr with
  | some (f, o) => prL pr o (c ⟨f, s.rg⟩)
  | none => match opE T n all i s with
    | some s' => (match stR s.fr all i with | some k => memN (lookK K i) k | none => true) = true ∧ c s'
    | none => match pcall td n all i s.fr with
      | some (f, gk, g, l, v) => pr (.call s.rg gk g l v) ∧ c ⟨f, s.rg⟩
      | none => False

end Go.Eng

namespace Go.Eng
open Go

/-- what an operation is told to do: what it yields, which regions it sets, which ones are new -/
structure Ef where
  r : List Rg → SV
  sets : List (Nat × Rg)
  news : List Rg

def setsE : List (Nat × Rg) → List Rg → List Rg
  | [], rg => rg
  | (r, g) :: l, rg => setsE l (rg.set r g)
def snoc (rg : List Rg) : List Rg → List Rg
  | [] => rg
  | g :: l => rg ++ (g :: l)
def fsts : List (Nat × Rg) → List Nat
  | [] => []
  | (r, _) :: l => r :: fsts l
def Ef.up (e : Ef) (rg : List Rg) : List Rg := snoc (setsE e.sets rg) e.news
def Ef.ks (e : Ef) : List Nat := fsts e.sets

theorem snoc_eq (rg l : List Rg) : snoc rg l = rg ++ l := by cases l <;> simp [snoc]
theorem setsE_length : ∀ (l : List (Nat × Rg)) (rg : List Rg), (setsE l rg).length = rg.length
  | [], _ => rfl
  | (r, g) :: l, rg => by simp [setsE, setsE_length l]
theorem setsE_get : ∀ (l : List (Nat × Rg)) (rg : List Rg) (r : Nat), memN (fsts l) r = false → (setsE l rg)[r]? = rg[r]?
  | [], _, _, _ => rfl
  | (q, g) :: l, rg, r, h => by
    simp only [fsts, memN, Bool.or_eq_false_iff] at h
    have hne : q ≠ r := fun e => by subst e; simp at h
    rw [setsE, setsE_get l _ r h.2, List.getElem?_set_ne hne]
theorem Ef.keeps (e : Ef) (rg : List Rg) : Agree e.ks rg (e.up rg) ∧ rg.length ≤ (e.up rg).length := by
  constructor
  · intro r g hg hm
    have hl := (List.getElem?_eq_some_iff.1 hg).1
    rw [Ef.up, snoc_eq, List.getElem?_append_left (by rw [setsE_length]; exact hl), setsE_get _ _ _ hm]
    exact hg
  · rw [Ef.up, snoc_eq, List.length_append, setsE_length]; omega

/-- what an operation does: at once, or by a call -/
def Effs (P : Program) (ρ : Operand → Value) (o : Oper) (w : World) (K : Value → World → Prop) : Prop :=
  (∃ v w', Yields P ρ o w v w' ∧ K v w') ∨ ∃ g args, (execOp ρ o).run P w = .ok (.enter g args) w ∧ Calls P g args w fun e w' => ∃ v, e = .returned v ∧ K v w'

theorem wp_of_effs {P : Program} {o : Oper} {a : Act} {w : World} {K' : Value → World → Prop} (h : Effs P a.eval o w K') {K : Act → World → Prop} {Q : Exit → Act → World → Prop} (hK : ∀ v w', K' v w' → K (a.put o.dst v) w') : o.wp P a w K Q := by
  rcases h with ⟨v, w', hy, hv⟩ | ⟨g, args, he, hc⟩
  · exact wp_of_yields hy (hK v w' hv)
  · unfold Oper.wp
    rw [he]
    refine Calls.mono hc fun e w' ⟨v, he, hv⟩ => ?_
    subst he
    exact hK v w' hv

def EffOk (E : Env) (N0 : Nums) (rg : List Rg) (f : Fr) (op : Op) (r : SV) (rg' : List Rg) : Prop :=
  ∀ (N : Nums) (ρ : Operand → Value) (o : Oper) (w : World), N0.le N → o.op = op → (∀ x s, ev f x = some s → s.den N = some (ρ x)) → Sat E N rg w →
    Effs E.P ρ o w fun v w' => ∃ N', N.le N' ∧ r.den N' = some v ∧ Sat E N' rg' w'

def lookE : List (Nat × Ef) → Nat → Option Ef
  | [], _ => none
  | (k, v) :: r, t => bif Nat.beq k t then some v else lookE r t

/-- an effect's name: the slot that it writes, or 1000 and its place -/
def keyE (o : Oper) (i : Nat) : Nat := match o.dst with
  | some d => d
  | none => 1000 + i

def effQ (tx : List (Nat × Ef)) (n : Nat) (all : Array Oper) (i : Nat) (s : St) : Option (Fr × Op × Ef) :=
  match nth all.toList i with
  | none => none
  | some o => match lookE tx (keyE o i) with
    | some e => bif sure all s.fr o then match putO n s.fr o.dst (.val (e.r s.rg)) with
        | some f => some (f, o.op, e)
        | none => none
      else none
    | none => none

theorem effQ_sound {E : Env} {tx : List (Nat × Ef)} {N N0 : Nums} {s : St} {a : Act} {all : Array Oper} {i : Nat} {o : Oper} {w : World} {f : Fr} {op : Op} {e : Ef} (ho : all[i]? = some o) (hq : effQ tx E.n all i s = some (f, op, e))
    (hob : EffOk E N0 s.rg s.fr op (e.r s.rg) (e.up s.rg)) (hN0 : N0.le N) (hf : FrOk E.n N s.fr a) (hS : Sat E N s.rg w) :
    Region.wanted o (yielded all a.tmps) = true ∧ ∀ (K : Act → World → Prop) (Q : Exit → Act → World → Prop), (∀ N' x w', N.le N' → FrOk E.n N' f (a.put o.dst x) → Sat E N' (e.up s.rg) w' → K (a.put o.dst x) w') → o.wp E.P a w K Q := by
  have ho' : nth all.toList i = some o := by rw [nth_eq]; simpa using ho
  unfold effQ at hq
  simp only [ho'] at hq
  split at hq
  · rename_i e0 _
    obtain ⟨hsu, hq⟩ := bif_none hq
    split at hq
    · rename_i f1 hp
      simp only [Option.some.injEq, Prod.mk.injEq] at hq
      obtain ⟨rfl, rfl, rfl⟩ := hq
      refine ⟨sure_sound hf hsu, fun K Q hK => ?_⟩
      exact wp_of_effs (hob N a.eval o w hN0 rfl (fun x s hx => ev_sound hf hx) hS) fun v w' ⟨N', h1, h2, h3⟩ => hK N' v w' h1 (putO_sound (hf.mono h1) h2 hp) h3
    · cases hq
  · cases hq

abbrev PE := List Rg → Fr → Op → SV → List Rg → Prop

def stepX (pe : PE) (pr : Owe → Prop) (td : List (Nat × SV)) (tx : List (Nat × Ef)) (T : Tab) (n : Nat) (all : Array Oper) (K : KW) (i : Nat) (c : St → Prop) (s : St) : Prop :=
  match effQ tx n all i s with
  | some (f, op, e) => allN (lookK K i) e.ks = true ∧ pe s.rg s.fr op (e.r s.rg) (e.up s.rg) ∧ c ⟨f, e.up s.rg⟩
  | none => stepT pr td T n all K i c s

def anyX (pe : PE) (pr : Owe → Prop) (fin : St → Prop) (td : List (Nat × SV)) (tx : List (Nat × Ef)) (T : Tab) (n : Nat) (all : Array Oper) (K : KW) (rg : List Rg) : STree → St → Prop
  | .nil, s => fin s
  | .q i blk r, s => quietK K i = true ∧ match qP td T n all (maskRg (flatK (memB blk) K) rg 0) i s.fr with
    | some (f, o) => prL pr o (anyX pe pr fin td tx T n all K rg r ⟨f, s.rg⟩)
    | none => False
  | .one i r, s => stepX pe pr td tx T n all K i (fun s' => anyX pe pr fin td tx T n all K rg r s') s
  | .two i j x y, s => stepX pe pr td tx T n all K i (fun s' => anyX pe pr fin td tx T n all K rg x s') s ∧ stepX pe pr td tx T n all K j (fun s' => anyX pe pr fin td tx T n all K rg y s') s

def dry1 (td : List (Nat × SV)) (tx : List (Nat × Ef)) (T : Tab) (n : Nat) (all : Array Oper) (i : Nat) (c : St → KW) (s : St) : KW :=
  match effQ tx n all i s with
  | some (f, _, e) => (i, e.ks) :: c ⟨f, e.up s.rg⟩
  | none => match qP td T n all s.rg i s.fr with
    | some (f, _) => c ⟨f, s.rg⟩
    | none => match opE T n all i s with
      | some s' => match stR s.fr all i with
        | some k => (i, [k]) :: c s'
        | none => c s'
      | none => match pcall td n all i s.fr with
        | some (f, _) => c ⟨f, s.rg⟩
        | none => []

def addK (i : Nat) (ks : List Nat) : KW → KW
  | [] => [(i, ks)]
  | (j, l) :: r => bif Nat.beq j i then (j, app ks l) :: r else (j, l) :: addK i ks r
def mergeK : KW → KW → KW
  | [], K => K
  | (i, ks) :: r, K => mergeK r (addK i ks K)

/-- what is written, and by which -/
def dryX (td : List (Nat × SV)) (tx : List (Nat × Ef)) (T : Tab) (n : Nat) (all : Array Oper) : STree → St → KW
  | .nil, _ => []
  | .q i _ r, s => match qP td T n all s.rg i s.fr with
    | some (f, _) => dryX td tx T n all r ⟨f, s.rg⟩
    | none => []
  | .one i r, s => dry1 td tx T n all i (fun s' => dryX td tx T n all r s') s
  | .two i j x y, s => mergeK (dry1 td tx T n all i (fun s' => dryX td tx T n all x s') s) (dry1 td tx T n all j (fun s' => dryX td tx T n all y s') s)

theorem anyX_sound {E : Env} {T : Tab} (hT : TabOk E.P T) {td : List (Nat × SV)} {tx : List (Nat × Ef)} {all : Array Oper} (hsel : Region.noSelect all = true) {Q : Exit → Act → World → Prop} (hQ : PanicOk Q) {N0 : Nums} {K : KW} {rg : List Rg} {fin : St → Prop} {Nf : Nums} (wf : World) (hV : Vis Nf rg wf) : ∀ (t : STree) (m : Nat) (listed : Array Bool) {s : St} {N : Nums} {a : Act} {w : World},
    treeOk all t m listed = true → listed.size = all.size → anyX (EffOk E N0) (Owe.Ok E N0) fin td tx T E.n all K rg t s → Nf.le N → N0.le N → FrOk E.n N s.fr a → Sat E N s.rg w → Agree (wrL K listed) rg s.rg → rg.length ≤ s.rg.length →
    (∀ s' N' a' w', fin s' → N.le N' → FrOk E.n N' s'.fr a' → Sat E N' s'.rg w' → Q .normal a' w') → wpF E.P all Q (fun L => VI E.im Nf (maskRg (wrL K L) rg 0)) m listed a w := by
  have emp : ∀ {l : List Nat}, l.isEmpty = true → l = [] := by intro l h; cases l <;> simp at h ⊢
  have see : ∀ (L : Array Bool) {N : Nums} {rg' : List Rg} {w : World}, Nf.le N → Agree (wrL K L) rg rg' → Sat E N rg' w → VI E.im Nf (maskRg (wrL K L) rg 0) w := fun L _ _ _ hN ha hS => ⟨vis_of_agree (hV.mask _) hN ha hS, hS.imm⟩
  -- one operation that is ready
  have step : ∀ (m : Nat) (listed : Array Bool) (i : Nat) (c : St → Prop) {s : St} {N : Nums} {a : Act} {w : World}, i ∈ Region.ready .any all listed → listed.size = all.size → stepX (EffOk E N0) (Owe.Ok E N0) td tx T E.n all K i c s → Nf.le N → N0.le N → FrOk E.n N s.fr a → Sat E N s.rg w → Agree (wrL K listed) rg s.rg → rg.length ≤ s.rg.length →
      (∀ s' N' a' w', c s' → N.le N' → FrOk E.n N' s'.fr a' → Sat E N' s'.rg w' → Agree (wrL K (listed.setIfInBounds i true)) rg s'.rg → rg.length ≤ s'.rg.length → wpF E.P all Q (fun L => VI E.im Nf (maskRg (wrL K L) rg 0)) m (listed.setIfInBounds i true) a' w') →
      wpOp E.P all Q i (fun a' w' => VI E.im Nf (maskRg (wrL K (listed.setIfInBounds i true)) rg 0) w' ∧ wpF E.P all Q (fun L => VI E.im Nf (maskRg (wrL K L) rg 0)) m (listed.setIfInBounds i true) a' w') a w := by
    intro m listed i c s N a w hrm hn hg hN hN0 hf hS ha hl hk
    have hlt : i < listed.size := by
      obtain ⟨_, o, ho, _⟩ := mem_ready.1 hrm
      rw [hn]; exact (Array.getElem?_eq_some_iff.1 ho).1
    have hset : (listed.setIfInBounds i true).getD i false = true := by simp [hlt]
    have grow : ∀ r, memN (wrL K listed) r = true → memN (wrL K (listed.setIfInBounds i true)) r = true := fun r h => by
      obtain ⟨p, h1, h2, h3⟩ := memN_flat.1 h
      refine memN_flat.2 ⟨p, h1, ?_, h3⟩
      by_cases e : i = p.1
      · rw [← e]; exact hset
      · rw [getD_set_ne false e]; exact h2
    have own : ∀ k, memN (lookK K i) k = true → memN (wrL K (listed.setIfInBounds i true)) k = true := fun k hk => by
      obtain ⟨p, h1, h2, h3⟩ := lookK_mem hk
      exact memN_flat.2 ⟨p, h1, by rw [h2]; exact hset, h3⟩
    have ha1 : Agree (wrL K (listed.setIfInBounds i true)) rg s.rg := ha.mono fun r hr => by
      cases hx : memN (wrL K listed) r with
      | true => rw [grow r hx] at hr; cases hr
      | false => rfl
    obtain ⟨_, o, ho, _⟩ := mem_ready.1 hrm
    unfold stepX at hg
    unfold wpOp
    simp only [ho]
    split at hg
    · rename_i f op e hq
      obtain ⟨hmk, hob, hg⟩ := hg
      obtain ⟨hw, hx⟩ := effQ_sound ho hq hob hN0 hf hS
      obtain ⟨hk1, hk2⟩ := e.keeps s.rg
      have ha2 : Agree (wrL K (listed.setIfInBounds i true)) rg (e.up s.rg) := fun r g hg hr => hk1 r g (ha1 r g hg hr) (allN_spec hmk r (by
        cases hx : memN (lookK K i) r with
        | true => rw [own r hx] at hr; cases hr
        | false => rfl))
      rw [hw, if_pos rfl]
      exact .inl (hx _ _ fun N' x w' hN' hf' hS' => ⟨see _ (hN.trans hN') ha2 hS', hk _ N' _ w' hg hN' hf' hS' ha2 (Nat.le_trans hl hk2)⟩)
    unfold stepT at hg
    split at hg
    · rename_i f ob hq
      obtain ⟨hob, hg⟩ := prL_spec hg
      obtain ⟨v, hv, hfr⟩ := qP_sound hT ho hq hob hN0 hf hS.vi
      have hnext := hk _ N _ w hg (Nums.le.refl N) hfr hS ha1 hl
      rcases hv with ⟨hw, hrun⟩ | ⟨hw, rfl⟩
      · rw [hw, if_pos rfl]
        exact .inl (wp_of_yields (.inl (hrun w hS.vi)) ⟨see _ hN ha1 hS, hnext⟩)
      · rw [hw]
        exact ⟨see _ hN ha1 hS, hnext⟩
    · split at hg
      · rename_i s1 he
        obtain ⟨hmk, hg2⟩ := hg
        obtain ⟨hw, N', x, w', hN', hy, hf', hS'⟩ := opE_sound hT (by simpa using ho) he hf hS
        have ha2 := stepE_agree (ks := wrL K (listed.setIfInBounds i true)) ha1 hl (by
          split
          · rename_i k hk'
            rw [hk'] at hmk
            exact own k hmk
          · rfl) he
        rw [hw, if_pos rfl]
        exact .inl (wp_of_yields hy ⟨see _ (hN.trans hN') ha2.1 hS', hk _ N' _ _ hg2 hN' hf' hS' ha2.1 ha2.2⟩)
      · split at hg
        · rename_i f gk g l v hpc
          obtain ⟨hob, hg⟩ := hg
          rcases pcall_sound ho hpc hob hN0 hf hS with ⟨hw, hx⟩ | ⟨hw, hf'⟩
          · rw [hw, if_pos rfl]
            exact .inl (hx _ _ fun x w' hf' hS' => ⟨see _ hN ha1 hS', hk _ N _ w' hg (Nums.le.refl N) hf' hS' ha1 hl⟩)
          · rw [hw]
            exact ⟨see _ hN ha1 hS, hk _ N _ w hg (Nums.le.refl N) hf' hS ha1 hl⟩
        · exact hg.elim
  intro t
  induction t with
  | nil =>
    intro m listed s N a w hs hn hg hN hN0 hf hS ha hl hk
    simp only [treeOk, Bool.and_eq_true] at hs
    obtain rfl := Nat.eq_of_beq_eq_true hs.1
    exact wpF.done (emp hs.2) (hk s N a w hg (Nums.le.refl N) hf hS)
  | q i blk r ih =>
    intro m listed s N a w hs hn hg hN hN0 hf hS ha hl hk
    cases m with
    | zero => simp [treeOk] at hs
    | succ m =>
      have hS0 := see listed hN ha hS
      simp only [treeOk, Bool.and_eq_true] at hs
      obtain ⟨⟨⟨⟨hr, hfree⟩, hclosed⟩, hwithin⟩, hs⟩ := hs
      simp only [anyX] at hg
      obtain ⟨hqk, hg⟩ := hg
      have hqk := quietK_spec hqk
      have hrm : i ∈ Region.ready .any all listed := by simpa using hr
      have hi0 : listed.getD i false = false := by
        have h1 := (mem_ready.1 hrm).1
        rcases Nat.lt_or_ge i listed.size with h' | h'
        · simp [h'] at h1 ⊢; exact h1
        · rw [Array.getD_eq_getD_getElem?, Array.getElem?_eq_none h']; rfl
      have same : ∀ (L : Array Bool) (r : Nat), memN (wrL K (L.setIfInBounds i true)) r = true ↔ memN (wrL K L) r = true := fun L r => by
        simp only [wrL, memN_flat]
        constructor
        · rintro ⟨p, h1, h2, h3⟩
          exact ⟨p, h1, by rwa [getD_set_ne false (fun e => hqk p h1 e.symm)] at h2, h3⟩
        · rintro ⟨p, h1, h2, h3⟩
          exact ⟨p, h1, by rwa [getD_set_ne false (fun e => hqk p h1 e.symm)], h3⟩
      split at hg
      · rename_i f ob hq
        obtain ⟨_, o, ho, _⟩ := mem_ready.1 hrm
        obtain ⟨hob, hg⟩ := prL_spec hg
        have wide : ∀ {L' : Array Bool} {w' : World}, Up all i listed L' → VI E.im Nf (maskRg (wrL K L') rg 0) w' → VI E.im Nf (maskRg (flatK (memB blk) K) rg 0) w' := fun hup hv =>
          ⟨hv.1.more fun r hr => by
            obtain ⟨p, h1, h2, h3⟩ := memN_flat.1 hr
            exact memN_flat.2 ⟨p, h1, (hup.within hclosed hn hi0 hwithin).2.2 _ h2, h3⟩, hv.2⟩
        obtain ⟨v, hv, hfr⟩ := qP_sound hT ho hq hob hN0 hf ((wide .here hS0).mono hN)
        refine wpF.take (S := fun L => VI E.im Nf (maskRg (wrL K L) rg 0)) ho hsel hfree hr (fun c a w h => hQ c a o.dst v w h) (fun L w => ⟨fun h => ⟨h.1.more fun r hr => (same L r).1 hr, h.2⟩, fun h => ⟨h.1.more fun r hr => (same L r).2 hr, h.2⟩⟩) ?_ hS0
          (ih m _ hs (by simpa using hn) hg hN hN0 hfr hS (fun r g hg hm => ha r g hg (by
            cases hx : memN (wrL K listed) r with
            | true => rw [(same listed r).2 hx] at hm; cases hm
            | false => rfl)) hl hk)
        rcases hv with ⟨hw, hrun⟩ | ⟨hw, rfl⟩
        · exact .inl ⟨hw, fun w ⟨L', hup, hw⟩ => hrun w ((wide hup hw).mono hN)⟩
        · exact .inr ⟨hw, rfl⟩
      · exact hg.elim
  | one i r ih =>
    intro m listed s N a w hs hn hg hN hN0 hf hS ha hl hk
    cases m with
    | zero => simp [treeOk] at hs
    | succ m =>
      simp only [treeOk, Bool.and_eq_true] at hs
      have hr := only_spec hs.1
      refine wpF.all hr (by simp) fun j hj => ?_
      simp only [List.mem_singleton] at hj; subst hj
      refine step m listed j _ (by rw [hr]; simp) hn hg hN hN0 hf hS ha hl fun s' N' a' w' hc hN' hf' hS' ha' hl' => ?_
      exact ih m _ hs.2 (by simpa using hn) hc (hN.trans hN') (hN0.trans hN') hf' hS' ha' hl' fun s2 N2 a2 w2 h1 h2 => hk s2 N2 a2 w2 h1 (hN'.trans h2)
  | two i j x y ihx ihy =>
    intro m listed s N a w hs hn hg hN hN0 hf hS ha hl hk
    cases m with
    | zero => simp [treeOk] at hs
    | succ m =>
      simp only [treeOk, Bool.and_eq_true] at hs
      obtain ⟨⟨h2, hx⟩, hy⟩ := hs
      have hr := only2_spec h2
      have hmi : i ∈ Region.ready .any all listed := by rcases hr with h | h <;> rw [h] <;> simp
      have hmj : j ∈ Region.ready .any all listed := by rcases hr with h | h <;> rw [h] <;> simp
      have si := step m listed i _ hmi hn hg.1 hN hN0 hf hS ha hl fun s' N' a' w' hc hN' hf' hS' ha' hl' => ihx m _ hx (by simpa using hn) hc (hN.trans hN') (hN0.trans hN') hf' hS' ha' hl' fun s2 N2 a2 w2 h1 h2 => hk s2 N2 a2 w2 h1 (hN'.trans h2)
      have sj := step m listed j _ hmj hn hg.2 hN hN0 hf hS ha hl fun s' N' a' w' hc hN' hf' hS' ha' hl' => ihy m _ hy (by simpa using hn) hc (hN.trans hN') (hN0.trans hN') hf' hS' ha' hl' fun s2 N2 a2 w2 h1 h2 => hk s2 N2 a2 w2 h1 (hN'.trans h2)
      rcases hr with h | h
      · exact wpF.all h (by simp) fun q hq => by
          simp only [List.mem_cons, List.not_mem_nil, or_false] at hq
          rcases hq with rfl | rfl
          · exact si
          · exact sj
      · exact wpF.all h (by simp) fun q hq => by
          simp only [List.mem_cons, List.not_mem_nil, or_false] at hq
          rcases hq with rfl | rfl
          · exact sj
          · exact si

/-! ### the run -/
def treeS : Sch → STree
  | [] => .nil
  | (i, some blk) :: r => .q i blk (treeS r)
  | (i, none) :: r => .one i (treeS r)
theorem treeS_ok {ops : Array Oper} : ∀ (sch : Sch) (L : Array Bool), schOk ops sch L = true → treeOk ops (treeS sch) sch.length L = true
  | [], L, h => by
    simp only [schOk] at h
    simp only [treeS, treeOk, List.length_nil]
    simp [h]
  | (i, some blk) :: r, L, h => by
    simp only [schOk, Bool.and_eq_true] at h
    simp only [treeS, treeOk, List.length_cons, Bool.and_eq_true]
    exact ⟨h.1, treeS_ok r _ h.2⟩
  | (i, none) :: r, L, h => by
    simp only [schOk, Bool.and_eq_true] at h
    simp only [treeS, treeOk, List.length_cons, Bool.and_eq_true]
    exact ⟨h.1, treeS_ok r _ h.2⟩

def runX (pe : PE) (pr : Owe → Prop) (fin : List It → St → Prop) (td : List (Nat × SV)) (tx : List (Nat × Ef)) (T : Tab) (B : SchT) (n : Nat) (rs : List ResultVar) : Nat → List It → St → Prop
  | 0, t, s => fin t s
  | m + 1, t, s =>
    match t with
    | .ops all (i :: rest) :: k => match effQ tx n all i s with
      | some (f, op, e) => pe s.rg s.fr op (e.r s.rg) (e.up s.rg) ∧ runX pe pr fin td tx T B n rs m (.ops all rest :: k) ⟨f, e.up s.rg⟩
      | none => match qP td T n all s.rg i s.fr with
        | some (f, o) => prL pr o (runX pe pr fin td tx T B n rs m (.ops all rest :: k) ⟨f, s.rg⟩)
        | none => match opE T n all i s with
          | some s' => runX pe pr fin td tx T B n rs m (.ops all rest :: k) s'
          | none => match pcall td n all i s.fr with
            | some (f, gk, g, l, v) => pr (.call s.rg gk g l v) ∧ runX pe pr fin td tx T B n rs m (.ops all rest :: k) ⟨f, s.rg⟩
            | none => fin t s
    | _ => match adv T n rs t s with
      | some (t', s') => runX pe pr fin td tx T B n rs m t' s'
      | none => match t with
        | .code c :: k => match c with
          | .region id ops d => match d with
            | true => match lookS B id with
              | some sch => anyX pe pr (fun s' => runX pe pr fin td tx T B n rs m k s') td tx T n ops (dryX td tx T n ops (treeS sch) s) s.rg (treeS sch) s
              | none => fin t s
            | false => fin t s
          | _ => fin t s
        | _ => fin t s

theorem runX_sound {td : List (Nat × SV)} {tx : List (Nat × Ef)} {T : Tab} {B : SchT} {n : Nat} {rs : List ResultVar} (E : Ctx) (e1 : E.n = n) (e2 : E.B = B) (e3 : TabOk E.P T) (e4 : PanicOk E.Q) : ∀ (m : Nat) (t : List It) (s : St),
    runX (EffOk E.toEnv E.N0) (Owe.Ok E.toEnv E.N0) (fun t s => X E t s) td tx T B n rs m t s → X E t s := by
  subst e1
  subst e2
  intro m
  induction m with
  | zero => intro t s h; exact h
  | succ m ih =>
    intro t s h
    simp only [runX] at h
    split at h
    · rename_i all i rest k
      have there : ∀ {α : Type} {y : α} {f : Oper → Option α}, (match nth all.toList i with | none => none | some o => f o) = some y → ∃ op, all[i]? = some op := fun {α y f} h => by
        split at h
        · cases h
        · rename_i op hop; rw [nth_eq] at hop; exact ⟨op, by simpa using hop⟩
      split at h
      · rename_i f op e hq
        obtain ⟨hob, h⟩ := h
        have hx := ih _ _ h
        intro N a w hN hf hS
        show wpOps _ _ _ _ _ _
        obtain ⟨o, ho⟩ := there hq
        obtain ⟨hw, h2⟩ := effQ_sound (E := E.toEnv) ho hq hob hN hf hS
        rw [wpOps_cons]
        unfold wpOp
        simp only [ho]
        rw [hw, if_pos rfl]
        exact .inl (h2 _ _ fun N' x w' hN' hf' hS' => hx N' _ w' (hN.trans hN') hf' hS')
      · split at h
        · rename_i f o hq
          obtain ⟨hob, h⟩ := prL_spec h
          have hx := ih _ _ h
          intro N a w hN hf hS
          show wpOps _ _ _ _ _ _
          obtain ⟨op, hop⟩ := there hq
          obtain ⟨v, hv, hfr⟩ := qP_sound e3 hop hq hob hN hf hS.vi
          rw [wpOps_cons]
          unfold wpOp
          simp only [hop]
          rcases hv with ⟨hw, hrun⟩ | ⟨hw, rfl⟩
          · rw [hw, if_pos rfl]
            exact .inl (wp_of_yields (.inl (hrun w hS.vi)) (hx N _ w hN hfr hS))
          · rw [hw]
            exact hx N _ w hN hfr hS
        · split at h
          · rename_i s1 he
            exact X.opEq e3 ⟨he⟩ (ih _ _ h)
          · split at h
            · rename_i f gk g l v hpc
              obtain ⟨hob, h⟩ := h
              have hx := ih _ _ h
              intro N a w hN hf hS
              show wpOps _ _ _ _ _ _
              obtain ⟨op, hop⟩ := there hpc
              rw [wpOps_cons]
              unfold wpOp
              simp only [hop]
              rcases pcall_sound hop hpc hob hN hf hS with ⟨hw, hy⟩ | ⟨hw, hf'⟩
              · rw [hw, if_pos rfl]
                exact .inl (hy _ _ fun x w' hf' hS' => hx N _ w' hN hf' hS')
              · rw [hw]
                exact hx N _ w hN hf' hS
            · exact h
    · split at h
      · rename_i t1 s1 ha
        exact adv_sound e3 ha (ih _ _ h)
      · split at h
        · rename_i c k _
          split at h
          · rename_i id ops d _
            split at h
            · split at h
              · rename_i sch hsch
                intro N a w hN hf hS
                show _ → Code.wp _ _ _ _ _
                intro hreg
                simp only [regsB, hsch] at hreg
                have hS' : Sat E.toEnv N s.rg { w with drawn := w.drawn + 1 } := hS.drew
                simp only [anyOk, Bool.and_eq_true] at hreg
                obtain ⟨⟨hn, hlen⟩, hsch'⟩ := hreg
                have hlen := Nat.eq_of_beq_eq_true hlen
                have := anyX_sound (E := E.toEnv) e3 hn (e4.sem _) _ hS'.vis (treeS sch) _ _ (treeS_ok sch _ hsch') (by simp) h (Nums.le.refl N) hN hf hS' (fun r g hg _ => hg) (Nat.le_refl _) (fun s' N' a' w' hx hN' hf' hS' => ih _ _ hx N' a' w' (hN.trans hN') hf' hS')
                rw [hlen] at this
                exact wp_region_any e3.mixed this.any
              · exact h
            · exact h
          · exact h
        · exact h

/-- go on; what is told of calls, values and effects is to be shown -/
theorem X.goX {P : Program} {fn : Func} {R : Ending → World → Prop} {W : World} {O : Nat → Nat → Prop} {im : Nat → Nat → Option Value} {D : Nat → Nat → Prop} {Rr : World → Prop} {N : Nums} {B : SchT} {T : Tab} (td : List (Nat × SV)) (tx : List (Nat × Ef)) (hT : TabOk P T) (m n : Nat) (hn : fn.ntmps = n) {t : List It} {s : St} {rs : Array ResultVar} (_hrs : fn.results = rs)
    (h : ∀ (pr : Owe → Prop) (pe : PE) (fin : List It → St → Prop), (∀ q, q.Ok (mkE P fn R W O im D Rr N B).toEnv N → pr q) → (∀ rg f op r rg', EffOk (mkE P fn R W O im D Rr N B).toEnv N rg f op r rg' → pe rg f op r rg') → (∀ t s, X (mkE P fn R W O im D Rr N B) t s → fin t s) → runX pe pr fin td tx T B n rs.toList m t s) : X (mkE P fn R W O im D Rr N B) t s := by
  subst hn
  exact runX_sound (mkE P fn R W O im D Rr N B) rfl rfl hT (fun _ _ d _ _ h => by cases d <;> exact h) m t s (h _ _ _ (fun _ h => h) (fun _ _ _ _ _ h => h) (fun _ _ h => h))

end Go.Eng

namespace Go.Eng
open Go

/-- told by the executor's equation -/
theorem EffOk.step {E : Env} {N0 : Nums} {T : Tab} (hT : TabOk E.P T) {rg rg' : List Rg} {f : Fr} {op : Op} {r : SV} (h : stepE T rg (ev f) op = some (r, rg')) : EffOk E N0 rg f op r rg' := by
  intro N a o w hN hop hf hS
  subst hop
  obtain ⟨N', x, w', h1, h2, h3, h4⟩ := stepE_sound hT hS hf h
  exact .inl ⟨x, w', h3, N', h1, h2, h4⟩

/-- told of a call -/
theorem EffOk.call {E : Env} {N0 : Nums} {rg rg' : List Rg} {f : Fr} {g : Nat} {xs : Array Operand} {ts : Array TypeId} {l : List SV} {r : SV} (hl : evL f xs.toList = some l) (hc : ∀ args w, (callFunc g args).run E.P w = .ok (.enter g args) w)
    (h : ∀ (N : Nums) (w : World) (args : List Value), N0.le N → Sat E N rg w → SV.denL N l = some args → Calls E.P g args.toArray w fun e w' => ∃ v, e = .returned v ∧ ∃ N', N.le N' ∧ r.den N' = some v ∧ Sat E N' rg' w') :
    EffOk E N0 rg f (.call { callee := .value (.func g), args := xs, argTypes := ts }) r rg' := by
  intro N ρ o w hN hop hf hS
  have hargs : SV.denL N l = some (xs.toList.map ρ) := by
    have key : ∀ (ys : List Operand) {l : List SV}, evL f ys = some l → SV.denL N l = some (ys.map ρ) := fun ys => by
      induction ys with
      | nil => intro l h; simp only [evL, Option.some.injEq] at h; subst h; rfl
      | cons y ys ih =>
        intro l h
        simp only [evL] at h
        split at h
        · rename_i v q hv hq
          simp only [Option.some.injEq] at h; subst h
          simp [SV.denL, hf _ _ hv, ih hq]
        · cases h
    exact key _ hl
  refine .inr ⟨g, (xs.toList.map ρ).toArray, ?_, h N w _ hN hS hargs⟩
  have hfn := hf (.func g) _ rfl
  simp only [SV.den, one?, if_true, Option.some.injEq] at hfn
  simp only [execOp, hop, resolve, ← hfn, Deferred.ofValue, Sem.run_bind, Sem.run_pure, Result.andThen, invoke]
  rw [hc]
  congr 2
  apply Array.ext'
  simp

theorem EffOk.fresh {E : Env} {N0 : Nums} {rg : List Rg} {f : Fr} {g n sz : Nat} {xs : Array Operand} {ts : Array TypeId} {l : List SV} {cs : List SV} (hl : evL f xs.toList = some l) (hc : ∀ args w, (callFunc g args).run E.P w = .ok (.enter g args) w)
    (h : ∀ (N : Nums) (w : World) (args : List Value), N0.le N → Sat E N rg w → SV.denL N l = some args → Calls E.P g args.toArray w (FreshRet cs n sz w)) :
    EffOk E N0 rg f (.call { callee := .value (.func g), args := xs, argTypes := ts }) (.osl rg.length 0 n sz none) (rg ++ [⟨true, cs, none⟩]) :=
  EffOk.call hl hc fun N w args hN hS ha => (h N w args hN hS ha).mono fun e w' hf => by
    obtain ⟨p, v, h1, h2, _, h3⟩ := hf.sat hS
    exact ⟨v, h1, _, Nums.le_append _ _, h2, h3⟩

/-- behind what turned a region's cells, and nothing else that was there -/
theorem Sat.cells {E : Env} {N : Nums} {rg : List Rg} {w w' : World} {r : Nat} {g : Rg} {p : Num} (h : Sat E N rg w) (hg : rg[r]? = some g) (hp : N[r]? = some p) (ho : g.own = true)
    (hc : Chg (fun k o => k = p.b ∧ p.o ≤ o ∧ o < p.o + p.x) w w') (cs' : List SV) (hl : cs'.length ≤ p.x) (hcs : ∀ (j : Nat) (c : SV), cs'[j]? = some c → ∃ v, c.den N = some v ∧ w'.cell? ⟨p.b, p.o + j, none⟩ = some v) : Sat E N (rg.set r { g with cells := cs' }) w' := by
  have hrl : r < rg.length := (List.getElem?_eq_some_iff.1 hg).1
  have hnd : ∀ k o, (k = p.b ∧ p.o ≤ o ∧ o < p.o + p.x) → ¬ E.D k o := fun k o ⟨e1, e2, e3⟩ hd => by
    subst e1
    have := h.dd r g p hg hp ho (o - p.o) (by omega)
    rw [show p.o + (o - p.o) = o by omega] at this
    exact this hd
  have keepD : ∀ k o, E.D k o → (w'.cell? ⟨k, o, none⟩ = w.cell? ⟨k, o, none⟩ ∧ w'.frozen? ⟨k, o, none⟩ = w.frozen? ⟨k, o, none⟩) ∧ objAt w' k = objAt w k := fun k o hd => by
    have hlt := (h.dlt k o hd).lt
    obtain ⟨x, hx⟩ : ∃ x, w.heap[k]? = some x := ⟨_, Array.getElem?_eq_getElem hlt⟩
    cases x with
    | cells c e f =>
      obtain ⟨c', h1, h2, h3⟩ := hc.cells k c e f hx
      have h4 := h3 o (fun e => hnd k o e hd)
      refine ⟨⟨by simp [World.cell?, hx, h1, h4], by simp [World.frozen?, hx, h1]⟩, by simp [objAt, hx, h1]⟩
    | _ =>
      have hne : ∀ o', ¬ (k = p.b ∧ p.o ≤ o' ∧ o' < p.o + p.x) := fun o' ⟨e1, e2, e3⟩ => by
        have := (h.room r g p hg hp ho (o' - p.o) (by omega)).1
        rw [← e1] at this
        simp [World.cell?, hx] at this
      have e := hc.same k hlt hne
      exact ⟨⟨by unfold World.cell?; simp only [e], by unfold World.frozen?; simp only [e]⟩, objAt_same e⟩
  refine h.after (m' := E.im) (D' := E.D) (R' := E.R) hc (fun k o _ ⟨e1, e2, e3⟩ => .inl ⟨r, g, p, hg, hp, ho, e1, e2, e3⟩) ⟨fun _ _ _ h => h, fun k o v hv => ?_, fun _ _ _ h => .inl h⟩
    (fun k o hd => ⟨.inl hd, (h.dlt k o hd).of (fun hs => by rw [(keepD k o hd).1.1]; exact hs) (keepD k o hd).2⟩) h.loc (h.loc w w' keepD hc.size h.res) (by simp) (fun q x x' pq hq1 hq2 hpq => ?_)
  · refine cell_of_chg hc (fun ⟨e1, e2, e3⟩ => ?_) (h.imm k o v hv)
    have := h.imd r g p hg hp ho (o - p.o) (by omega)
    rw [show p.o + (o - p.o) = o by omega, ← e1, hv] at this
    cases this
  · rcases get_set hrl hq2 with ⟨rfl, rfl⟩ | ⟨hi, hq2⟩
    · rw [hg] at hq1; cases hq1
      rw [hp] at hpq; cases hpq
      exact ⟨rfl, rfl, fun e => (by rw [ho] at e; cases e), fun _ => hl, .inr hcs⟩
    · rw [hq1] at hq2; cases hq2
      refine ⟨rfl, rfl, fun _ => rfl, fun e => h.ext q x pq hq1 hpq e, .inl ⟨rfl, fun j hj ⟨e1, e2, e3⟩ => ?_⟩⟩
      have hw : j < x.wid pq := by
        unfold Rg.wid
        cases hxo : x.own with
        | true => have := h.ext q x pq hq1 hpq hxo; simp; omega
        | false => simpa using hj
      rcases h.disj r q g x p pq hg hp hq1 hpq ho (fun e => hi e.symm) j hw e1 with h1 | h1 <;> omega

/-- a row of one's own handed in comes back, turned, or a new one in its place -/
def TurnRet (b y K : Nat) (cs : List SV) (n sz : Nat) (w : World) (e : Ending) (w' : World) : Prop :=
  ∃ b' y' x' : Nat, e = .returned (.slice (some ⟨b', y', none⟩) n (x' / sz)) ∧ ((b' = b ∧ y' = y ∧ x' = K) ∨ w.heap.size ≤ b') ∧ cs.length ≤ x' ∧ 0 < x' ∧ (∀ (j : Nat) (c : SV), cs[j]? = some c → ∃ v, c.den [] = some v ∧ w'.cell? ⟨b', y' + j, none⟩ = some v) ∧
    (∀ j, j < x' → (w'.cell? ⟨b', y' + j, none⟩).isSome = true ∧ w'.frozen? ⟨b', y' + j, none⟩ = false) ∧ Chg (fun k o => k = b ∧ y ≤ o ∧ o < y + K) w w'

theorem TurnRet.sat {E : Env} {N : Nums} {rg : List Rg} {w w' : World} {r : Nat} {g : Rg} {p : Num} {cs : List SV} {n sz : Nat} {e : Ending} (h : Sat E N rg w) (hg : rg[r]? = some g) (hp : N[r]? = some p) (ho : g.own = true) (hob : g.ob = none) (hf : TurnRet p.b p.o p.x cs n sz w e w') :
    ∃ v N', e = .returned v ∧ N.le N' ∧ (SV.osl rg.length 0 n sz none).den N' = some v ∧ Sat E N' (rg.set r ⟨false, [], none⟩ ++ [⟨true, cs, none⟩]) w' := by
  obtain ⟨b', y', x', he, hcase, h1, h2, h3, h4, hc⟩ := hf
  have hrl : r < rg.length := (List.getElem?_eq_some_iff.1 hg).1
  have hget : ∀ q : Num, (N ++ [q])[rg.length]? = some q := fun q => by rw [← h.len]; simp
  rcases hcase with ⟨rfl, rfl, rfl⟩ | hnew
  · have hs := h.cells hg hp ho hc cs h1 (fun j c hj => by
      obtain ⟨v, k1, k2⟩ := h3 j c hj
      exact ⟨v, SV.den_mono (N := []) (N' := N) (fun r p h => by simp at h) c k1, k2⟩)
    have hs2 := hs.cut (c := 0) (n := cs.length) (g := { g with cells := cs }) (by rw [List.getElem?_set_self hrl]) hp ho (by simp)
    simp only [List.drop_zero, List.take_length, List.set_set, Nat.add_zero, Nat.sub_zero] at hs2
    exact ⟨_, _, he, Nums.le_append _ _, by simp only [SV.den, hget, Num.cap]; simp, hs2⟩
  · have hs := (h.cells hg hp ho hc [] (Nat.zero_le _) (fun j c hj => by simp at hj)).retire (r := r) (by simpa using hrl)
    rw [List.set_set] at hs
    refine ⟨_, _, he, Nums.le_append _ [⟨b', y', x'⟩], by simp only [SV.den, hget, Num.cap]; simp, ?_⟩
    refine hs.addFresh (s0 := w.heap.size) (fun r p hp => h.lt r p hp) hnew h.chg.size ?_ h1 (fun j c hj => ?_) h4 (fun i => ?_) (fun i hd => ?_)
    · obtain ⟨v, hv⟩ := Option.isSome_iff_exists.1 (h4 0 h2).1
      exact World.block_lt_of_cell? _ _ hv
    · obtain ⟨v, k1, k2⟩ := h3 j c hj
      exact ⟨v, SV.den_mono (N := []) (N' := N) (fun r p h => by simp at h) c k1, k2⟩
    · cases hi : E.im b' i with
      | none => rfl
      | some v => have := World.block_lt_of_cell? _ _ (h.imm _ _ _ hi); simp at this; omega
    · have := (h.dlt _ _ hd).lt
      omega

theorem EffOk.turn {E : Env} {N0 : Nums} {rg : List Rg} {f : Fr} {g n sz r : Nat} {xs : Array Operand} {ts : Array TypeId} {l : List SV} {cs : List SV} {gg : Rg} (hl : evL f xs.toList = some l) (hc : ∀ args w, (callFunc g args).run E.P w = .ok (.enter g args) w) (hg : rg[r]? = some gg) (ho : gg.own = true) (hob : gg.ob = none)
    (h : ∀ (N : Nums) (w : World) (args : List Value) (p : Num), N0.le N → Sat E N rg w → SV.denL N l = some args → N[r]? = some p → Calls E.P g args.toArray w (TurnRet p.b p.o p.x cs n sz w)) :
    EffOk E N0 rg f (.call { callee := .value (.func g), args := xs, argTypes := ts }) (.osl rg.length 0 n sz none) (rg.set r ⟨false, [], none⟩ ++ [⟨true, cs, none⟩]) :=
  EffOk.call hl hc fun N w args hN hS ha => by
    obtain ⟨p, hp⟩ : ∃ p, N[r]? = some p := ⟨_, List.getElem?_eq_getElem (by have := (List.getElem?_eq_some_iff.1 hg).1; rw [hS.len]; exact this)⟩
    refine (h N w args p hN hS ha hp).mono fun e w' hf => ?_
    obtain ⟨v, N', h1, h2, h3, h4⟩ := hf.sat hS hg hp ho hob
    exact ⟨v, h1, N', h2, h3, h4⟩

/-- what is told leaves all as it is, and yields a value: an operation of the library that is no call -/
theorem EffOk.val {E : Env} {N0 : Nums} {rg : List Rg} {f : Fr} {op : Op} {r : SV} (h : ∀ (N : Nums) (ρ : Operand → Value) (o : Oper) (w : World), N0.le N → o.op = op → (∀ x s, ev f x = some s → s.den N = some (ρ x)) → Sat E N rg w → ∃ v, r.den N = some v ∧ (execOp ρ o).run E.P w = .ok (.value v) w) : EffOk E N0 rg f op r rg :=
  fun N ρ o w hN hop hf hS => by
    obtain ⟨v, h1, h2⟩ := h N ρ o w hN hop hf hS
    exact .inl ⟨v, w, .inl h2, N, Nums.le.refl N, h1, hS⟩

end Go.Eng

namespace Go.Eng
open Go

/-- a bound of a slice, told -/
def Bnd (f : Fr) (g : GK) (o : Option Operand) (z : Option Nat) : Prop := match o, z with
  | none, none => True
  | some p, some n => ∃ kd s, evK f g p = some (.int kd s) ∧ (g.T → s.den = (n : Int))
  | _, _ => False

theorem Bnd.run {N : Nums} {f : Fr} {g : GK} {o : Option Operand} {z : Option Nat} {ρ : Operand → Value} (h : Bnd f g o z) (ht : g.T) (hρ : ∀ x s, evK f g x = some s → s.den N = some (ρ x)) : (o = none ∧ z = none) ∨ ∃ k n, o.map ρ = some (.int k (n : Nat)) ∧ z = some n := by
  cases o with
  | none => cases z with
    | none => exact .inl ⟨rfl, rfl⟩
    | some n => exact h.elim
  | some p => cases z with
    | none => exact h.elim
    | some n =>
      obtain ⟨kd, s, h1, h2⟩ := h
      have := hρ _ _ h1
      simp only [SV.den, h2 ht, Option.some.injEq] at this
      exact .inr ⟨kd, n, by simp [← this], rfl⟩

theorem rep_len (z : List SV) : ∀ n, (rep n z).length = n * z.length
  | 0 => by simp [rep]
  | n + 1 => by simp [rep, rep_len z n, Nat.add_mul]; omega

end Go.Eng

namespace Go.Eng
open Go

theorem EffOk.clear {E : Env} {N0 : Nums} {T : Tab} (hT : TabOk E.P T) {rg : List Rg} {f : Fr} {x : Operand} {ts e r c n : Nat} {ti te : TI} {k : Option Nat} {g : Rg} {cs' : List SV} (hx : ev f x = some (.osl r c n te.size k)) (hti : lookT T ts = some ti) (hk : ti.kind = .slice e) (hte : lookT T e = some te) (hz : te.zero.length = te.size) (hz0 : 0 < te.size)
    (hg : rg[r]? = some g) (ho : g.own = true) (hn : n ≠ 0) (hc : c ≤ g.cells.length) (h1 : (rep n te.zero).all SV.one = true) (hp : ∀ (N : Nums) (p : Num), N0.le N → N[r]? = some p → g.cells.length ≤ p.x → c + n * te.size ≤ p.x) (hcs : cs' = setRow g.cells c (rep n te.zero)) :
    EffOk E N0 rg f (.call { callee := .builtin .clear, args := #[x], argTypes := #[ts] }) (.tup []) (rg.set r { g with cells := cs' }) := by
  intro N ρ o w hN hop hf h
  have ok := (hT.ok ts ti hti).kind
  rw [hk] at ok
  have ok' : E.P.underlying ts = some (.slice e) := ok
  have oke := hT.ok e te hte
  obtain ⟨z, hzr, hzd⟩ := oke.zero
  have hzd' : SV.denL N te.zero = some z.cells.toList := SV.denL_mono (N := []) (N' := N) (fun r p h => by simp at h) _ hzd
  have z2 : z.cells.size = te.size := by
    have := (SV.denL_get _ hzd').1
    simp at this; omega
  have hd := hf _ _ hx
  obtain ⟨p, hpn⟩ : ∃ p, N[r]? = some p := ⟨_, List.getElem?_eq_getElem (by rw [h.len]; exact (List.getElem?_eq_some_iff.1 hg).1)⟩
  have hext := h.ext r g p hg hpn ho
  have hpx := hp N p hN hpn hext
  simp only [SV.den, hpn, Option.some.injEq] at hd
  have hden := denL_rep hzd' n
  obtain ⟨w', hst, hsat⟩ := Sat.store hpn c (rep n te.zero) (repV n z.cells.toList) 0 h hg ho (by omega) (by rw [rep_len, hz]; omega) hden (one_cells h1 hden)
  have hrun : (Builtin.clear_ #[ts] o.type #[ρ x]).run E.P w = .ok (.tuple #[]) w' := by
    rw [← hd]
    simp only [Builtin.clear_, List.getElem?_toArray, List.getElem?_cons_zero, Sem.run_bind, run_underlying ok', Result.andThen]
    cases n with
    | zero => exact absurd rfl hn
    | succ n =>
      simp only [Sem.run_bind, hzr, Result.andThen, Builtin.zeroCells]
      rw [zeros_eq (by omega), hst]
      rfl
  subst hcs
  refine .inl ⟨_, w', .inl ?_, N, Nums.le.refl N, by simp only [SV.den, SV.denL]; rfl, by simpa using hsat⟩
  simp [execOp, hop, resolve, invoke, builtin, hrun]

end Go.Eng

namespace Go.Eng
open Go

theorem Sat.perm {E : Env} {N N' : Nums} {rg rg' : List Rg} {w : World} (h : Sat E N rg w) (hl : N'.length = rg'.length) (σ : Nat → Nat) (hσ : ∀ i j, σ i = σ j → i = j)
    (hm : ∀ (i : Nat) (x : Rg) (p : Num), rg'[i]? = some x → N'[i]? = some p → ∃ x0, rg[σ i]? = some x0 ∧ N[σ i]? = some p ∧ x.own = x0.own ∧ x.cells.length = x0.cells.length ∧ x.ob = none ∧ ∀ (j : Nat) (c : SV), x.cells[j]? = some c → ∃ c0, x0.cells[j]? = some c0 ∧ ∀ v, c0.den N = some v → c.den N' = some v) : Sat E N' rg' w := by
  refine { h with len := hl, lt := ?_, cell := ?_, ext := ?_, room := ?_, disj := ?_, obj := ?_, odisj := ?_, imd := ?_, dd := ?_, foot := ?_ }
  · intro i p hp
    obtain ⟨x, hx⟩ : ∃ x, rg'[i]? = some x := ⟨_, List.getElem?_eq_getElem (by have := (List.getElem?_eq_some_iff.1 hp).1; omega)⟩
    obtain ⟨x0, h1, h2, _⟩ := hm i x p hx hp
    exact h.lt _ _ h2
  · intro i x p hx hp j c hj
    obtain ⟨x0, h1, h2, _, _, _, h6⟩ := hm i x p hx hp
    obtain ⟨c0, h7, h8⟩ := h6 j c hj
    obtain ⟨v, h9, h10⟩ := h.cell _ _ _ h1 h2 j c0 h7
    exact ⟨v, h8 v h9, h10⟩
  · intro i x p hx hp ho
    obtain ⟨x0, h1, h2, h3, h4, _, _⟩ := hm i x p hx hp
    rw [h4]; exact h.ext _ _ _ h1 h2 (by rw [← h3]; exact ho)
  · intro i x p hx hp ho
    obtain ⟨x0, h1, h2, h3, h4, _, _⟩ := hm i x p hx hp
    exact h.room _ _ _ h1 h2 (by rw [← h3]; exact ho)
  · intro i i' x x' p p' hx hp hx' hp' ho hne j hj hb
    obtain ⟨x0, h1, h2, h3, h4, _, _⟩ := hm i x p hx hp
    obtain ⟨x1, k1, k2, k3, k4, _, _⟩ := hm i' x' p' hx' hp'
    exact h.disj _ _ _ _ _ _ h1 h2 k1 k2 (by rw [← h3]; exact ho) (fun e => hne (hσ _ _ e)) j (by unfold Rg.wid at hj ⊢; rw [← k3, ← k4]; exact hj) hb
  · intro i x p ob hx hp ho
    obtain ⟨x0, h1, h2, h3, h4, h5, _⟩ := hm i x p hx hp
    rw [h5] at ho; cases ho
  · intro i i' x x' p p' hx hp hx' hp' ho _ _
    obtain ⟨x0, h1, h2, h3, h4, h5, _⟩ := hm i x p hx hp
    rw [h5] at ho; cases ho
  · intro i x p hx hp ho
    obtain ⟨x0, h1, h2, h3, h4, _, _⟩ := hm i x p hx hp
    exact h.imd _ _ _ h1 h2 (by rw [← h3]; exact ho)
  · intro i x p hx hp ho
    obtain ⟨x0, h1, h2, h3, h4, _, _⟩ := hm i x p hx hp
    exact h.dd _ _ _ h1 h2 (by rw [← h3]; exact ho)
  · intro i x p hx hp ho
    obtain ⟨x0, h1, h2, h3, h4, _, _⟩ := hm i x p hx hp
    exact h.foot _ _ _ h1 h2 (by rw [← h3]; exact ho)

/-- pairs of cells, one by one -/
def CellsTo (N N' : Nums) : List SV → List SV → Prop
  | [], [] => True
  | c0 :: cs0, c :: cs => (∀ v, c0.den N = some v → c.den N' = some v) ∧ CellsTo N N' cs0 cs
  | _, _ => False
theorem CellsTo.get {N N' : Nums} : ∀ {cs0 cs : List SV}, CellsTo N N' cs0 cs → cs.length = cs0.length ∧ ∀ (j : Nat) (c : SV), cs[j]? = some c → ∃ c0, cs0[j]? = some c0 ∧ ∀ v, c0.den N = some v → c.den N' = some v
  | [], [], _ => ⟨rfl, fun j c h => by simp at h⟩
  | c0 :: cs0, c :: cs, ⟨h1, h2⟩ => by
    obtain ⟨k1, k2⟩ := CellsTo.get h2
    refine ⟨by simp [k1], fun j d hd => ?_⟩
    cases j with
    | zero => simp at hd; subst hd; exact ⟨c0, rfl, h1⟩
    | succ j => exact k2 j d (by simpa using hd)
theorem CellsTo.same {N N' : Nums} : ∀ {cs : List SV}, (∀ c ∈ cs, ∀ v, c.den N = some v → c.den N' = some v) → CellsTo N N' cs cs
  | [], _ => trivial
  | c :: cs, h => ⟨h c (by simp), CellsTo.same fun c hc => h c (by simp [hc])⟩

end Go.Eng

namespace Go.Eng
open Go

end Go.Eng

namespace Go.Eng
open Go

theorem lookR {N : Nums} {rg : List Rg} {r : Nat} {g : Rg} (hl : N.length = rg.length) (hg : rg[r]? = some g) : ∃ p, N[r]? = some p := ⟨_, List.getElem?_eq_getElem (by rw [hl]; exact (List.getElem?_eq_some_iff.1 hg).1)⟩

/-- what an operation does to objects: what it yields, the regions behind it, which ones it wrote -/
def obV (T : Tab) (rg : List Rg) (ρ : Operand → Option SV) (op : Op) : Option (SV × List Rg × List Nat) :=
  match op with
  | .makeChan t sz => match lookT T t, ρ sz with
    | some ti, some (.int _ (.lit n)) => match ti.kind with
      | .chan e => match lookT T e with
        | some te => bif decide (0 ≤ n) && Nat.ble n.toNat 65536 && Nat.ble te.bytes 65536 then some (.ch rg.length, rg ++ [⟨false, [], some (.chan n.toNat [] false 0 0)⟩], []) else none
        | none => none
      | _ => none
    | _, _ => none
  | .call c => match c.callee with
    | .builtin .len => match c.args.toList, c.argTypes.toList with
      | [x], [t] => match ρ x, lookT T t with
        | some (.ch r), some ti => match ti.kind, nth rg r with
          | .chan _, some g => match g.ob with
            | some (.chan _ buf _ _ _) => some (.int .i64 (.lit buf.length), rg, [])
            | _ => none
          | _, _ => none
        | _, _ => none
      | _, _ => none
    | _ => none
  | _ => none

theorem obV_keeps {T : Tab} {rg rg' : List Rg} {ρ : Operand → Option SV} {op : Op} {v : SV} {ws : List Nat} (h : obV T rg ρ op = some (v, rg', ws)) : Keeps ws rg rg' := by
  unfold obV at h
  split at h
  · split at h
    · split at h
      · split at h
        · obtain ⟨_, h⟩ := bif_none h
          simp only [Option.some.injEq, Prod.mk.injEq] at h
          obtain ⟨_, rfl, rfl⟩ := h
          exact ⟨fun r g hg _ => by rw [List.getElem?_append_left (List.getElem?_eq_some_iff.1 hg).1]; exact hg, by simp⟩
        · cases h
      · cases h
    · cases h
  · split at h
    · split at h
      · split at h
        · split at h
          · split at h
            · simp only [Option.some.injEq, Prod.mk.injEq] at h
              obtain ⟨_, rfl, rfl⟩ := h
              exact Keeps.refl _ _
            · cases h
          · cases h
        · cases h
      · cases h
    · cases h
  · cases h

theorem obV_sound {E : Env} {N : Nums} {rg rg' : List Rg} {w : World} {T : Tab} (hT : TabOk E.P T) (h : Sat E N rg w) {ρ : Operand → Option SV} {ρ' : Operand → Value} (hρ : ∀ x s, ρ x = some s → s.den N = some (ρ' x)) {o : Oper} {r : SV} {ws : List Nat} (hs : obV T rg ρ o.op = some (r, rg', ws)) :
    ∃ N' x w', N.le N' ∧ r.den N' = some x ∧ Yields E.P ρ' o w x w' ∧ Sat E N' rg' w' := by
  unfold obV at hs
  split at hs
  · rename_i t sz hop
    split at hs
    · rename_i ti k n hti hsz
      split at hs
      · rename_i e hk
        split at hs
        · rename_i te hte
          obtain ⟨hb, hs⟩ := bif_none hs
          simp only [Option.some.injEq, Prod.mk.injEq] at hs
          obtain ⟨rfl, rfl, rfl⟩ := hs
          simp only [Bool.and_eq_true, decide_eq_true_eq] at hb
          obtain ⟨⟨b1, b2⟩, b3⟩ := hb
          have b2 := Nat.le_of_ble_eq_true b2
          have b3 := Nat.le_of_ble_eq_true b3
          have ok := (hT.ok t ti hti).kind
          rw [hk] at ok
          obtain ⟨d, ok⟩ := ok
          obtain ⟨i, hi, hib⟩ := (hT.ok e te hte).info
          have hn := hρ _ _ hsz
          simp only [SV.den, SI.den, Option.some.injEq] at hn
          have hmul : (i.bytes : Int) * n ≤ 2 ^ 48 - 112 := by
            have h1 : i.bytes * n.toNat ≤ 65536 * 65536 := Nat.mul_le_mul (by omega) b2
            have h2 : ((i.bytes * n.toNat : Nat) : Int) = (i.bytes : Int) * n := by rw [Int.natCast_mul, Int.toNat_of_nonneg b1]
            omega
          have hrun : (Instr.makeChan t (ρ' sz)).run E.P w = .ok (.chan (some w.heap.size)) (w.alloc (.chan n.toNat #[] false 0 0 false)) := by
            rw [← hn]
            have c1 : ¬ (n < 0 ∨ n > IntKind.i64.max ∨ (i.bytes : Int) * n > 2 ^ 48 - 112) := by
              simp only [not_or]
              refine ⟨by omega, ?_, by omega⟩
              have : IntKind.i64.max = 9223372036854775807 := rfl
              rw [this]; omega
            simp only [Instr.makeChan, asInt, asIntOf, Sem.run_bind, Sem.run_pure, Result.andThen, run_underlying ok, run_info hi]
            rw [if_neg c1]
            rfl
          have hS := h.allocW (.chan n.toNat #[] false 0 0 false) ⟨false, [], some (.chan n.toNat [] false 0 0)⟩ 0 (fun j c hj => by simp at hj) (fun h => by cases h) (fun h => by cases h) (fun ob hob => by cases hob; rfl)
          refine ⟨_, .chan (some w.heap.size), _, Nums.le_append _ _, ?_, .inl ?_, hS⟩
          · have : (N ++ [(⟨w.heap.size, 0, 0⟩ : Num)])[rg.length]? = some ⟨w.heap.size, 0, 0⟩ := by rw [← h.len]; simp
            simp only [SV.den, this]
          · simp [execOp, hop, hrun]
        · cases hs
      · cases hs
    · cases hs
  · rename_i c hop
    obtain ⟨callee, args, argTypes⟩ := c
    simp only at hs
    split at hs
    · split at hs
      · rename_i x t ha ht
        split at hs
        · rename_i r0 ti hx hti
          split at hs
          · rename_i e g hk hg
            split at hs
            · rename_i cap buf cl sn rc hob
              simp only [Option.some.injEq, Prod.mk.injEq] at hs
              obtain ⟨rfl, rfl, rfl⟩ := hs
              rw [nth_eq] at hg
              obtain ⟨p, hp⟩ := lookR h.len hg
              have ok := (hT.ok t ti hti).kind
              rw [hk] at ok
              obtain ⟨d, ok⟩ := ok
              have hxd := hρ _ _ hx
              simp only [SV.den, hp, Option.some.injEq] at hxd
              obtain ⟨⟨o', h1, h2⟩, _⟩ := h.obj r0 g p _ hg hp hob
              simp only [Ob.den] at h1
              cases hbuf : SV.denL N buf with
              | none => simp [hbuf] at h1
              | some l =>
                simp only [hbuf, Option.some.injEq] at h1
                subst h1
                have hl := (SV.denL_get _ hbuf).1
                have harr : args = #[x] := by apply Array.ext'; simpa using ha
                have htarr : argTypes = #[t] := by apply Array.ext'; simpa using ht
                subst harr htarr
                have := Conc.run_len_chan (P := E.P) (w := w) t o.type ok h2
                refine ⟨N, .int .i64 buf.length, w, Nums.le.refl N, rfl, .inl ?_, h⟩
                simp [execOp, hop, resolve, invoke, builtin, ← hxd, this, goInt, hl]
            · cases hs
          · cases hs
        · cases hs
      · cases hs
    · cases hs
  · cases hs

end Go.Eng

namespace Go.Eng
open Go

/-- what zero values are, told -/
abbrev ZT := List (Nat × SV)
def lookZ : ZT → Nat → Option SV
  | [], _ => none
  | (k, v) :: r, t => bif Nat.beq k t then some v else lookZ r t
def ZOk (P : Program) : ZT → Prop
  | [] => True
  | (t, s) :: r => (∃ z, (∀ w, (zeroValue t).run P w = .ok z w) ∧ ∀ N, s.den N = some z) ∧ ZOk P r
theorem ZOk.look {P : Program} : ∀ {Z : ZT}, ZOk P Z → ∀ {t : Nat} {s : SV}, lookZ Z t = some s → ∃ z, (∀ w, (zeroValue t).run P w = .ok z w) ∧ ∀ N, s.den N = some z
  | [], _, t, s, h => by simp [lookZ] at h
  | (k, v) :: r, ⟨h1, h2⟩, t, s, h => by
    simp only [lookZ] at h
    by_cases hk : k = t
    · subst hk; simp at h; subst h; exact h1
    · simp only [beq_ne hk, cond_false] at h; exact ZOk.look h2 h

def isComm : Op → Bool
  | .select _ _ => true
  | _ => false
def hasComm (ops : Array Oper) : List Nat → Bool
  | [] => false
  | i :: l => (match nth ops.toList i with | some o => isComm o.op | none => false) || hasComm ops l

/-- a select of one case, with a default: what it yields, the object it leaves -/
def selV (Z : ZT) (ρ : Operand → Option SV) (c : SelectCase) (cap : Nat) (buf : List SV) (cl : Bool) (sn rc : Nat) : Option (SV × Option Ob) :=
  match lookZ Z c.elem with
  | none => none
  | some z => match c.send with
    | some y => match ρ y with
      | some v => bif cl then none else bif Nat.blt buf.length cap then some (.tup [.int .i64 (.lit 0), .bool (.lit false)], some (.chan cap (buf ++ [v]) cl (sn + 1) rc)) else some (.tup [.int .i64 (.lit (-1)), .bool (.lit false)], none)
      | none => none
    | none => match buf with
      | v :: bs => some (.tup [.int .i64 (.lit 0), .bool (.lit true), v], some (.chan cap bs cl sn (rc + 1)))
      | [] => bif cl then none else some (.tup [.int .i64 (.lit (-1)), .bool (.lit false), z], none)

def commV (Z : ZT) (n : Nat) (s : St) (o : Oper) : Option (St × List Nat) :=
  match o.guard, o.op with
  | none, .select cases false => match cases.toList with
    | [c] => match ev s.fr c.chan with
      | some (.ch r) => match nth s.rg r with
        | some g => match g.ob with
          | some (.chan cap buf cl sn rc) => match selV Z (ev s.fr) c cap buf cl sn rc with
            | some (v, ob) => match putO n s.fr o.dst (.val v) with
              | some f => match ob with
                | some ob' => some (⟨f, s.rg.set r { g with ob := some ob' }⟩, [r])
                | none => some (⟨f, s.rg⟩, [])
              | none => none
            | none => none
          | _ => none
        | none => none
      | _ => none
    | _ => none
  | _, _ => none

theorem commV_keeps {Z : ZT} {n : Nat} {s s' : St} {o : Oper} {ws : List Nat} (h : commV Z n s o = some (s', ws)) : Keeps ws s.rg s'.rg := by
  unfold commV at h
  split at h
  · split at h
    · split at h
      · rename_i r _
        split at h
        · split at h
          · split at h
            · split at h
              · split at h
                · simp only [Option.some.injEq, Prod.mk.injEq] at h
                  obtain ⟨rfl, rfl⟩ := h
                  refine ⟨fun q g hg hm => ?_, by simp⟩
                  have hne : r ≠ q := fun e => by subst e; simp [memN] at hm
                  rw [List.getElem?_set_ne hne]; exact hg
                · simp only [Option.some.injEq, Prod.mk.injEq] at h
                  obtain ⟨rfl, rfl⟩ := h
                  exact Keeps.refl _ _
              · cases h
            · cases h
          · cases h
        · cases h
      · cases h
    · cases h
  · cases h

/-- a communication is handed up, blocking or not -/
theorem comm_upB {P : Program} {ops : Array Oper} {i : Nat} {rest : List Nat} {o : Oper} {a : Act} {w w' : World} {cases : Array CommCase} {shape : CommShape} {bl : Bool} (ho : ops[i]? = some o) (hg : o.guard = none) (hr : (execOp a.eval o).run P w = .ok (.comm cases bl shape) w') (b : Frame) (k : List Item) (cs : List Frame) :
    ∃ es, stepG P true (Conc.G (b.at a (.inRegion ops (i :: rest) :: k)) cs) w = .comm (Conc.G (b.at a (.inRegion ops (i :: rest) :: k)) cs) cases bl shape w' es := by
  have hs := stepG_op (P := P) (b := b) (k := k) (cs := cs) (w := w) (rest := rest) ho (wanted_none (t := a.tmps) hg)
  have hs' : stepG P true (Conc.G (b.at a (.inRegion ops (i :: rest) :: k)) cs) w = stepG.apply P true (b.at a (.inRegion ops (i :: rest) :: k)) cs none (execOp a.eval o) w := hs
  rw [hs']
  simp only [stepG.apply, Sem.runT_eq, hr]
  exact ⟨_, rfl⟩

/-- by one step of the machine -/
theorem opsS.stepM {P : Program} {ops : Array Oper} {Q : Exit → Act → World → Prop} {i : Nat} {rest : List Nat} {o : Oper} {a : Act} {w w' : World} {v : Value} (ho : ops[i]? = some o)
    (hst : ∀ (b : Frame) (k : List Item) (cs : List Frame), step P (Conc.solo (Conc.G (b.at a (.inRegion ops (i :: rest) :: k)) cs) w) = .next (Conc.solo (Conc.G ((b.at a (.inRegion ops (i :: rest) :: k)).finish v) cs) w'))
    (h : opsS P ops Q rest (a.put o.dst v) w') : opsS P ops Q (i :: rest) a w := by
  intro b k cs
  obtain ⟨e, a', w'', hq, harr⟩ := h b k cs
  refine ⟨e, a', w'', hq, .of_steps (.one ?_) harr⟩
  have := hst b k cs
  have hfin : (b.at a (.inRegion ops (i :: rest) :: k)).finish v = b.at (a.put o.dst v) (.inRegion ops rest :: k) := by
    rw [Frame.finish_at, ho]; rfl
  rw [hfin] at this
  exact this

theorem setChan_put (w : World) (c cap : Nat) (buf : Array Value) (cl : Bool) (s r : Nat) (tm : Bool) : w.setChan c cap buf cl s r tm = putOb w c (.chan cap buf cl s r tm) := rfl

theorem commV_sound {E : Ctx} {Z : ZT} (hZ : ZOk E.P Z) {all : Array Oper} {i : Nat} {rest : List Nat} {k : List It} {s s' : St} {o : Oper} {ws : List Nat} (ho : nth all.toList i = some o) (h : commV Z E.n s o = some (s', ws)) (hk : X E (.ops all rest :: k) s') : XS E all (i :: rest) k s := by
  intro N a w hN hf hS
  have ho' := nth_get ho
  unfold commV at h
  split at h
  · rename_i cases hg hop
    split at h
    · rename_i c hc
      split at h
      · rename_i r hch
        split at h
        · rename_i g hgr
          split at h
          · rename_i cap buf cl sn rc hob
            split at h
            · rename_i v ob hsel
              split at h
              · rename_i f hput
                rw [nth_eq] at hgr
                obtain ⟨p, hp⟩ := lookR hS.len hgr
                obtain ⟨⟨o', h1, h2⟩, _⟩ := hS.obj r g p _ hgr hp hob
                simp only [Ob.den] at h1
                cases hbuf : SV.denL N buf with
                | none => simp [hbuf] at h1
                | some l =>
                  simp only [hbuf, Option.some.injEq] at h1
                  subst h1
                  have hchd := ev_sound hf hch
                  simp only [SV.den, hp, Option.some.injEq] at hchd
                  have hcases : cases = #[c] := by apply Array.ext'; simpa using hc
                  subst hcases
                  unfold selV at hsel
                  split at hsel
                  · cases hsel
                  · rename_i z hz
                    obtain ⟨zv, hz1, hz2⟩ := hZ.look hz
                    have hlen := (SV.denL_get _ hbuf).1
                    split at hsel
                    · -- a send
                      rename_i y hy
                      split at hsel
                      · rename_i vs hvs
                        have hvd := ev_sound hf hvs
                        have hexec : (execOp a.eval o).run E.P w = .ok (.comm #[Conc.scase p.b (a.eval y) zv] false .select) w := by
                          simp [execOp, hop, hy, hz1, ← hchd, Result.andThen, Conc.scase]
                        cases cl with
                        | true => simp at hsel
                        | false =>
                          simp only [cond_false] at hsel
                          cases hroom : Nat.blt buf.length cap with
                          | true =>
                            rw [hroom] at hsel
                            simp only [cond_true, Option.some.injEq, Prod.mk.injEq] at hsel
                            obtain ⟨rfl, rfl⟩ := hsel
                            simp only [Option.some.injEq, Prod.mk.injEq] at h
                            obtain ⟨rfl, _⟩ := h
                            have hlt : buf.length < cap := Nat.le_of_ble_eq_true hroom
                            have hS' := hS.setOb (ob' := .chan cap (buf ++ [vs]) false (sn + 1) rc) (o' := .chan cap (l ++ [a.eval y]).toArray false (sn + 1) rc false) hgr hp hob (by
                              simp only [Ob.den]
                              rw [SV.denL_append buf [vs] (m := [a.eval y]) hbuf (by simp [SV.denL, hvd])])
                            refine opsS.stepM (v := .tuple #[.int .i64 0, .bool false]) (w' := putOb w p.b (.chan cap (l ++ [a.eval y]).toArray false (sn + 1) rc false)) ho' (fun b k' cs => ?_) (opsS.of (hk N _ _ hN (putO_sound hf (by simp [SV.den, SV.denL, SI.den, SB.den]) hput) hS'))
                            obtain ⟨es, hst⟩ := comm_upB (rest := rest) ho' hg hexec b k' cs
                            have := Conc.step_lone_sel_send_room (k := 0) hst rfl (fun m c' hm hc' => by cases m with | zero => exact absurd rfl hm | succ m => simp at hc') h2 (by simp; omega)
                            simp only [commResult, setChan_put, List.push_toArray] at this
                            simpa [Conc.scase, goInt] using this
                          | false =>
                            rw [hroom] at hsel
                            simp only [cond_false, Option.some.injEq, Prod.mk.injEq] at hsel
                            obtain ⟨rfl, rfl⟩ := hsel
                            simp only [Option.some.injEq, Prod.mk.injEq] at h
                            obtain ⟨rfl, _⟩ := h
                            have hge : cap ≤ buf.length := by
                              rcases Nat.lt_or_ge buf.length cap with h | h
                              · rw [Nat.ble_eq_true_of_le (show buf.length + 1 ≤ cap from h) |> (fun e => (show Nat.blt buf.length cap = true from e))] at hroom; cases hroom
                              · exact h
                            refine opsS.stepM (v := .tuple #[.int .i64 (-1), .bool false]) (w' := w) ho' (fun b k' cs => ?_) (opsS.of (hk N _ _ hN (putO_sound hf (by simp [SV.den, SV.denL, SI.den, SB.den]) hput) hS))
                            obtain ⟨es, hst⟩ := comm_upB (rest := rest) ho' hg hexec b k' cs
                            have := Conc.step_lone_sel_default hst (fun cc hcc => by
                              simp only [List.mem_toArray, List.mem_singleton] at hcc
                              subst hcc
                              exact Conc.noWay_send h2 (by simp; omega))
                            simpa [commResult, Conc.scase, goInt] using this
                      · cases hsel
                    · -- a receive
                      rename_i hy
                      have hexec : (execOp a.eval o).run E.P w = .ok (.comm #[Conc.rcase p.b zv] false .select) w := by
                        simp [execOp, hop, hy, hz1, ← hchd, Result.andThen, Conc.rcase]
                      split at hsel
                      · rename_i v0 bs
                        simp only [Option.some.injEq, Prod.mk.injEq] at hsel
                        obtain ⟨rfl, rfl⟩ := hsel
                        simp only [Option.some.injEq, Prod.mk.injEq] at h
                        obtain ⟨rfl, _⟩ := h
                        simp only [SV.denL] at hbuf
                        cases hv0 : v0.den N with
                        | none => simp [hv0] at hbuf
                        | some x0 =>
                          cases hbs : SV.denL N bs with
                          | none => simp [hv0, hbs] at hbuf
                          | some l' =>
                            simp only [hv0, hbs, Option.some.injEq] at hbuf
                            subst hbuf
                            have hS' := hS.setOb (ob' := .chan cap bs cl sn (rc + 1)) (o' := .chan cap l'.toArray cl sn (rc + 1) false) hgr hp hob (by simp only [Ob.den, hbs])
                            refine opsS.stepM (v := .tuple #[.int .i64 0, .bool true, x0]) (w' := putOb w p.b (.chan cap l'.toArray cl sn (rc + 1) false)) ho' (fun b k' cs => ?_) (opsS.of (hk N _ _ hN (putO_sound hf (by simp [SV.den, SV.denL, SI.den, SB.den, hv0]) hput) hS'))
                            obtain ⟨es, hst⟩ := comm_upB (rest := rest) ho' hg hexec b k' cs
                            have := Conc.step_lone_sel_recv_buf (k := 0) hst rfl (fun m c' hm hc' => by cases m with | zero => exact absurd rfl hm | succ m => simp at hc') h2 (by simp)
                            simp only [setChan_put] at this
                            simpa [commResult, Conc.rcase, goInt] using this
                      · cases cl with
                        | true => simp at hsel
                        | false =>
                          simp only [cond_false, Option.some.injEq, Prod.mk.injEq] at hsel
                          obtain ⟨rfl, rfl⟩ := hsel
                          simp only [Option.some.injEq, Prod.mk.injEq] at h
                          obtain ⟨rfl, _⟩ := h
                          simp only [SV.denL, Option.some.injEq] at hbuf
                          subst hbuf
                          refine opsS.stepM (v := .tuple #[.int .i64 (-1), .bool false, zv]) (w' := w) ho' (fun b k' cs => ?_) (opsS.of (hk N _ _ hN (putO_sound hf (by simp [SV.den, SV.denL, SI.den, SB.den, hz2]) hput) hS))
                          obtain ⟨es, hst⟩ := comm_upB (rest := rest) ho' hg hexec b k' cs
                          have := Conc.step_lone_sel_default hst (fun cc hcc => by
                            simp only [List.mem_toArray, List.mem_singleton] at hcc
                            subst hcc
                            exact Conc.noWay_recv h2)
                          simpa [commResult, Conc.rcase, goInt] using this
              · cases h
            · cases h
          · cases h
        · cases h
      · cases h
    · cases h
  · cases h

end Go.Eng

namespace Go.Eng
open Go

/-! ### regions with a select -/
def commS (Z : ZT) (T : Tab) (n : Nat) (all : Array Oper) : List Nat → St → Option (List Nat × St × List Nat)
  | [], _ => none
  | i :: rest, s => match nth all.toList i with
    | none => none
    | some o => match commV Z n s o with
      | some (s', ws) => some (rest, s', ws)
      | none => match o.guard with
        | none => match opQ T n all s.rg i s.fr with
          | some f => commS Z T n all rest ⟨f, s.rg⟩
          | none => none
        | some _ => none

def commT (Z : ZT) (T : Tab) (n : Nat) (t : List It) (s : St) : Option (List It × St × List Nat) :=
  match t with
  | .code (.region _ ops false) :: k => bif hasComm ops (List.range ops.size) then
      match commS Z T n ops (List.range ops.size) s with
      | some (rest, s', ws) => some (.ops ops rest :: k, s', ws)
      | none => none
    else none
  | _ => none

theorem commS_ok {P : Program} {Z : ZT} (hZ : ZOk P Z) {T : Tab} (hT : TabOk P T) {n : Nat} {all : Array Oper} : ∀ (l : List Nat) {s s' : St} {rest : List Nat} {ws : List Nat}, commS Z T n all l s = some (rest, s', ws) →
    Keeps ws s.rg s'.rg ∧ ∀ (E : Ctx) (k : List It), E.P = P → E.n = n → X E (.ops all rest :: k) s' → XS E all l k s
  | [], s, s', rest, ws, h => by simp [commS] at h
  | i :: r, s, s', rest, ws, h => by
    simp only [commS] at h
    split at h
    · cases h
    · rename_i o ho
      split at h
      · rename_i s1 ws1 hc
        simp only [Option.some.injEq, Prod.mk.injEq] at h
        obtain ⟨rfl, rfl, rfl⟩ := h
        refine ⟨commV_keeps hc, fun E k e1 e2 hk => ?_⟩
        subst e1; subst e2
        exact commV_sound hZ ho hc hk
      · split at h
        · rename_i hg
          split at h
          · rename_i f hq
            obtain ⟨h1, h2⟩ := commS_ok hZ hT r h
            refine ⟨h1, fun E k e1 e2 hk => ?_⟩
            have hx := h2 E k e1 e2 hk
            subst e1; subst e2
            intro N a w hN hf hS
            obtain ⟨v, hv, hfr⟩ := opQ_sound hT (nth_get ho) hq hf hS.vis
            rcases hv with ⟨hw, hrun⟩ | ⟨hw, _⟩
            · exact opsS.value (nth_get ho) hg (hrun w hS.vis) (hx N _ w hN hfr hS)
            · rw [wanted_none hg] at hw; cases hw
          · cases h
        · cases h

theorem commT_ok {P : Program} {Z : ZT} (hZ : ZOk P Z) {T : Tab} (hT : TabOk P T) {n : Nat} {t t' : List It} {s s' : St} {ws : List Nat} (h : commT Z T n t s = some (t', s', ws)) :
    Keeps ws s.rg s'.rg ∧ ∀ (E : Ctx) {B : SchT}, E.P = P → E.n = n → E.B = B → PanicOk E.Q → X E t' s' → X E t s := by
  unfold commT at h
  split at h
  · obtain ⟨_, h⟩ := bif_none h
    split at h
    · rename_i rest s1 ws1 hc
      simp only [Option.some.injEq, Prod.mk.injEq] at h
      obtain ⟨rfl, rfl, rfl⟩ := h
      obtain ⟨h1, h2⟩ := commS_ok hZ hT _ hc
      exact ⟨h1, fun E B e1 e2 _ _ hk => X.reg (h2 E _ e1 e2 hk)⟩
    · cases h
  · cases h

/-! ### operations on objects, as calls -/
def objS (T : Tab) (n : Nat) (all : Array Oper) (i : Nat) (s : St) : Option (St × List Nat) :=
  match nth all.toList i with
  | none => none
  | some o => bif sure all s.fr o then
      match obV T s.rg (ev s.fr) o.op with
      | some (v, rg, ws) => match putO n s.fr o.dst (.val v) with
        | some f => some (⟨f, rg⟩, ws)
        | none => none
      | none => none
    else none

theorem objS_ok {P : Program} {T : Tab} (hT : TabOk P T) {n : Nat} {all : Array Oper} : CallerOk P n all (objS T n all) := by
  intro i s s' ws h
  unfold objS at h
  split at h
  · cases h
  · rename_i o ho
    obtain ⟨hsu, h⟩ := bif_none h
    split at h
    · rename_i v rg ws1 hv
      split at h
      · rename_i f hp
        simp only [Option.some.injEq, Prod.mk.injEq] at h
        obtain ⟨rfl, rfl⟩ := h
        refine ⟨obV_keeps hv, o, nth_get ho, fun E N a w hP hn hf hS => ?_⟩
        subst hP; subst hn
        refine ⟨sure_sound hf hsu, fun K Q hK => ?_⟩
        obtain ⟨N', x, w', h1, h2, h3, h4⟩ := obV_sound hT hS (fun x s hx => ev_sound hf hx) hv
        exact wp_of_yields h3 (hK N' x w' h1 (putO_sound (hf.mono h1) h2 hp) h4)
      · cases h
    · cases h

def callO (T : Tab) (F : FT) (run : Runner) (n : Nat) (all : Array Oper) (i : Nat) (s : St) : Option (St × List Nat) :=
  match objS T n all i s with
  | some r => some r
  | none => callC F run n all i s

/-- what a runner is to do, given types that are as told -/
def RunOkT (P : Program) (run : Runner) : Prop :=
  ∀ T B n rs t s t' s' ws, TabOk P T → run T B n rs t s = (t', s', ws) → Keeps ws s.rg s'.rg ∧ ∀ (E : Ctx), E.P = P → E.n = n → E.B = B → PanicOk E.Q → X E t' s' → X E t s

theorem callQ_tab {P : Program} {F : FT} (hF : FTok P F) {all : Array Oper} {i : Nat} {s : St} {fi : FI} {l : List SV} {d : Option Nat} (h : callQ F all i s = some (fi, l, d)) : TabOk P fi.T := by
  unfold callQ at h
  split at h
  · cases h
  · rename_i o _
    obtain ⟨_, h⟩ := bif_none h
    split at h
    · split at h
      · split at h
        · split at h
          · split at h
            · rename_i fi' l' hfi _
              obtain ⟨_, h⟩ := bif_none h
              simp only [Option.some.injEq, Prod.mk.injEq] at h
              obtain ⟨rfl, _, _⟩ := h
              exact (hF.look hfi).tab
            · cases h
          · cases h
        · cases h
      · cases h
    · cases h

theorem callD_ok {P : Program} {F : FT} (hF : FTok P F) {run : Runner} (hr : RunOkT P run) (n : Nat) (all : Array Oper) : CallerOk P n all (callC F run n all) := by
  intro i s s' ws h
  unfold callC at h
  split at h
  · rename_i fi l d hq
    have main : ∀ {t2 : List It} {s2 : St} {ws2 : List Nat}, run fi.T fi.B fi.n fi.rs [.code fi.body] ⟨argFr l 0, s.rg⟩ = (t2, s2, ws2) → (t2 = [] ∨ ∃ r k, t2 = .res r :: k) → endC n s.fr d fi s2 ws2 = some (s', ws) →
        Keeps ws s.rg s'.rg ∧ ∃ o, all[i]? = some o ∧ ∀ (E : Env) (N : Nums) (a : Act) (w : World), E.P = P → E.n = n → FrOk n N s.fr a → Sat E N s.rg w → Region.wanted o (yielded all a.tmps) = true ∧
    ∀ (K : Act → World → Prop) (Q : Exit → Act → World → Prop), (∀ N' x w', N.le N' → FrOk n N' s'.fr (a.put o.dst x) → Sat E N' s'.rg w' → K (a.put o.dst x) w') → o.wp P a w K Q := by
      intro t2 s2 ws2 hrun ht he
      unfold endC at he
      split at he
      · rename_i r hres
        split at he
        · rename_i f' hput
          simp only [Option.some.injEq, Prod.mk.injEq] at he
          obtain ⟨rfl, rfl⟩ := he
          obtain ⟨hkeep, hsound⟩ := hr _ _ _ _ _ _ _ _ _ (callQ_tab hF hq) hrun
          refine ⟨hkeep, ?_⟩
          unfold callQ at hq
          split at hq
          · cases hq
          · rename_i o ho
            rw [nth_eq] at ho
            refine ⟨o, by simpa using ho, fun E N a w hP hn hf hS => ?_⟩
            cases hsu : sure all s.fr o with
            | false => rw [hsu] at hq; simp at hq
            | true =>
              rw [hsu] at hq
              simp only [cond_true] at hq
              refine ⟨sure_sound hf hsu, fun K Q hK => ?_⟩
              split at hq
              · rename_i c hop
                split at hq
                · rename_i f hcal
                  split at hq
                  · rename_i vf hvf
                    split at hq
                    · rename_i g cs hfn
                      split at hq
                      · rename_i fi' l' hfi hl
                        cases hb : Nat.ble (l' ++ cs).length fi'.n with
                        | false => rw [hb] at hq; simp at hq
                        | true =>
                          rw [hb] at hq
                          simp only [cond_true, Option.some.injEq, Prod.mk.injEq] at hq
                          obtain ⟨rfl, rfl, rfl⟩ := hq
                          obtain ⟨⟨fn, cd, k1, k2, k3, k4, k5, k6⟩, htab, hcall⟩ := hF.look hfi
                          subst hP; subst hn
                          have hargs0 := evL_sound hf _ hl
                          obtain ⟨cl, hcl, hcd⟩ := fnOf_sound (ev_sound hf hvf) hfn
                          have hargs := SV.denL_append _ _ hargs0 hcd
                          have hexec : (execOp a.eval o).run E.P w = .ok (.enter g (c.args.toList.map a.eval ++ cl).toArray) w := by
                            obtain ⟨callee, args, argTypes⟩ := c
                            simp only at hcal hl
                            subst hcal
                            simp only [execOp, hop, resolve, hcl, Deferred.ofValue, Sem.run_bind, Sem.run_pure, Result.andThen, invoke]
                            rw [hcall]
                            congr 2
                            apply Array.ext'
                            simp
                          unfold Oper.wp
                          rw [hexec]
                          show Calls _ _ _ _ _
                          let R : Ending → World → Prop := fun e w' => ∃ v N', e = .returned v ∧ N.le N' ∧ (resV r).den N' = some v ∧ Sat E N' s2.rg w'
                          let E' : Ctx := { E with n := fi'.n, Q := bodyPost E.P fn R, N0 := N, B := fi'.B }
                          have hX : X E' [.code cd] ⟨argFr (l' ++ cs) 0, s.rg⟩ := by
                            rw [← k3]
                            refine hsound E' rfl rfl rfl (fun _ _ d _ _ h => by cases d <;> exact h) ?_
                            have hres' : resL fi'.T s2 fn.results.toList = some r := by rw [← k5]; exact hres
                            rcases ht with rfl | ⟨r0, k0, rfl⟩
                            · exact X.fin (E := E') htab (fn := fn) (R := R) rfl hres' (fun N' w' v hN' hS' hv => ⟨v, N', rfl, hN', hv, hS'.env rfl rfl rfl rfl rfl⟩)
                            · intro N' a' w' hN' hf' hS'
                              obtain ⟨v, q1, q2⟩ := results_run (E := E'.toEnv) rfl htab hf' hS' hres'
                              exact sem_ret k0 ⟨hf'.defers, v, q2, v, N', rfl, hN', q1, hS'.env rfl rfl rfl rfl rfl⟩
                          have hlen : (c.args.toList.map a.eval ++ cl).toArray.size ≤ fn.ntmps := by
                            rw [← k4]
                            have h1 := (SV.denL_get _ hargs).1
                            have h2 := Nat.le_of_ble_eq_true hb
                            simp at h1 h2 ⊢; omega
                          have := X.enter (P := E.P) E' k1 k2 (R := R) rfl rfl k4 k6 hlen (ss := l' ++ cs) (rg := s.rg) hargs (hS.env rfl rfl rfl rfl rfl) hX
                          refine Calls.mono this fun e w' ⟨v, N', hv, hN', hd', hS'⟩ => ?_
                          subst hv
                          exact hK N' v w' hN' (putO_sound (hf.mono hN') hd' hput) hS'
                      · cases hq
                    · cases hq
                  · cases hq
                · cases hq
              · cases hq
        · cases he
      · cases he
    split at h
    · rename_i r k s2 ws2 hrun
      exact main hrun (.inr ⟨_, _, rfl⟩) h
    · rename_i s2 ws2 hrun
      exact main hrun (.inl rfl) h
    · cases h
  · cases h

theorem callO_ok {P : Program} {T : Tab} (hT : TabOk P T) {F : FT} (hF : FTok P F) {run : Runner} (hr : RunOkT P run) (n : Nat) (all : Array Oper) : CallerOk P n all (callO T F run n all) := by
  intro i s s' ws h
  unfold callO at h
  split at h
  · rename_i r hr'
    simp only [Option.some.injEq] at h
    subst h
    exact objS_ok hT i s s' ws hr'
  · exact callD_ok hF hr n all i s s' ws h

/-! ### the run -/
def runD (F : FT) (Z : ZT) (u : Bool) : Nat → Tab → SchT → Nat → List ResultVar → List Nat → List It → St → List It × St × List Nat
  | 0, _, _, _, _, ws, t, s => (t, s, ws)
  | m + 1, T, B, n, rs, ws, t, s =>
    match commT Z T n t s with
    | some (t', s', ws') => runD F Z u m T B n rs (app ws' ws) t' s'
    | none => match adv T n rs t s with
    | some (t', s') => runD F Z u m T B n rs (app (wrs t s) ws) t' s'
    | none => match t with
      | .ops all (i :: rest) :: k => match callO T F (fun T B n rs t s => runD F Z u m T B n rs [] t s) n all i s with
        | some (s', ws') => runD F Z u m T B n rs (app ws' ws) (.ops all rest :: k) s'
        | none => (t, s, ws)
      | .code c :: k => match c with
        | .region id ops d => match d with
          | true => match lookS B id with
            | some sch => match drawnS T n ops (fun i s => callO T F (fun T B n rs t s => runD F Z u m T B n rs [] t s) n ops i s) sch s with
              | some (s', ws') => runD F Z u m T B n rs (app ws' ws) k s'
              | none => (t, s, ws)
            | none => (t, s, ws)
          | false => (t, s, ws)
        | .loop c => match u with
          | true => runD F Z u m T B n rs ws (.code c :: .inl c :: k) s
          | false => (t, s, ws)
        | _ => (t, s, ws)
      | .inl c :: k => runD F Z u m T B n rs ws (.code c :: .inl c :: k) s
      | _ => (t, s, ws)

theorem runD_ok {P : Program} {F : FT} (hF : FTok P F) {Z : ZT} (hZ : ZOk P Z) (u : Bool) : ∀ (m : Nat) (T : Tab) (B : SchT) (n : Nat) (rs : List ResultVar) (ws : List Nat) (t : List It) (s : St) (t' : List It) (s' : St) (ws' : List Nat), TabOk P T → runD F Z u m T B n rs ws t s = (t', s', ws') →
    (∃ ws1, ws' = app ws1 ws ∧ Keeps ws1 s.rg s'.rg) ∧ ∀ (E : Ctx), E.P = P → E.n = n → E.B = B → PanicOk E.Q → X E t' s' → X E t s := by
  have app_assoc : ∀ a b c : List Nat, app a (app b c) = app (app a b) c := by
    intro a b c
    induction a with
    | nil => rfl
    | cons x a ih => simp [app, ih]
  have app_nil : ∀ a : List Nat, app a [] = a := by
    intro a
    induction a with
    | nil => rfl
    | cons x a ih => simp [app, ih]
  intro m
  induction m with
  | zero =>
    intro T B n rs ws t s t' s' ws' e3 h
    simp only [runD, Prod.mk.injEq] at h
    obtain ⟨rfl, rfl, rfl⟩ := h
    exact ⟨⟨[], rfl, Keeps.refl _ _⟩, fun E _ _ _ _ h => h⟩
  | succ m ih =>
    intro T B n rs ws t s t' s' ws' e3 h
    have hrun : RunOkT P (fun T B n rs t s => runD F Z u m T B n rs [] t s) := by
      intro T B n rs t s t' s' ws' e3 h
      obtain ⟨⟨ws1, h1, h2⟩, h3⟩ := ih T B n rs [] t s t' s' ws' e3 h
      rw [app_nil] at h1; subst h1
      exact ⟨h2, h3⟩
    have same : (t, s, ws) = (t', s', ws') → (∃ ws1, ws' = app ws1 ws ∧ Keeps ws1 s.rg s'.rg) ∧ ∀ (E : Ctx), E.P = P → E.n = n → E.B = B → PanicOk E.Q → X E t' s' → X E t s := by
      intro h
      simp only [Prod.mk.injEq] at h
      obtain ⟨rfl, rfl, rfl⟩ := h
      exact ⟨⟨[], rfl, Keeps.refl _ _⟩, fun E _ _ _ _ h => h⟩
    have next : ∀ {w1 : List Nat} {t1 : List It} {s1 : St}, runD F Z u m T B n rs (app w1 ws) t1 s1 = (t', s', ws') → Keeps w1 s.rg s1.rg → (∀ (E : Ctx), E.P = P → E.n = n → E.B = B → PanicOk E.Q → X E t1 s1 → X E t s) →
        (∃ ws1, ws' = app ws1 ws ∧ Keeps ws1 s.rg s'.rg) ∧ ∀ (E : Ctx), E.P = P → E.n = n → E.B = B → PanicOk E.Q → X E t' s' → X E t s := by
      intro w1 t1 s1 h hk hx
      obtain ⟨⟨ws1, h1, h2⟩, h3⟩ := ih _ _ _ _ _ _ _ _ _ _ e3 h
      exact ⟨⟨app ws1 w1, by rw [h1, app_assoc], hk.trans h2⟩, fun E e1 e2 e0 e4 e5 => hx E e1 e2 e0 e4 (h3 E e1 e2 e0 e4 e5)⟩
    simp only [runD] at h
    split at h
    · rename_i t1 s1 ws1 hc
      obtain ⟨h1, h2⟩ := commT_ok hZ e3 hc
      exact next h h1 (fun E e1 e2 e0 e4 e5 => h2 E e1 e2 e0 e4 e5)
    split at h
    · rename_i t1 s1 ha
      exact next (w1 := wrs t s) h (adv_keeps ha) (fun E e1 e2 e0 e4 e5 => by subst e1; subst e2; subst e0; exact adv_sound e3 ha e5)
    · split at h
      · rename_i all i rest k _ _
        split at h
        · rename_i s1 ws1 hc
          obtain ⟨h1, o, ho, h2⟩ := callO_ok e3 hF hrun n all _ _ _ _ hc
          refine next h h1 (fun E e1 e2 e0 e4 e5 => ?_)
          subst e1; subst e2; subst e0
          intro N a w hN hf hS
          obtain ⟨hw, h3⟩ := h2 E.toEnv N a w rfl rfl hf hS
          show wpOps _ _ _ _ _ _
          simp only [wpOps, ho]
          rw [hw, if_pos rfl]
          exact .inl (h3 _ _ fun N' x w' hN' hf' hS' => e5 N' _ w' (hN.trans hN') hf' hS')
        · exact same h
      · rename_i c k _ _
        split at h
        · rename_i id ops d _ _
          split at h
          · split at h
            · rename_i sch hsch
              split at h
              · rename_i s1 ws1 hd
                have hc := callO_ok e3 hF hrun n ops
                refine next h (drawnS_keeps hc hd) (fun E e1 e2 e0 e4 e5 => ?_)
                subst e1; subst e2; subst e0
                intro N a w hN hf hS
                show _ → Code.wp _ _ _ _ _
                intro hreg
                simp only [regsB, hsch] at hreg
                exact drawnS_sound e3 hc hreg hd (e4.sem k) hf hS (fun N' a' w' hN' hf' hS' => e5 N' a' w' (hN.trans hN') hf' hS')
              · exact same h
            · exact same h
          · exact same h
        · rename_i c
          split at h
          · refine next (w1 := []) h (Keeps.refl _ _) (fun E e1 e2 e0 e4 e5 => ?_)
            intro N a w hN hf hS
            intro hreg
            exact wp_unroll (wp_mono (e5 N a w hN hf hS hreg) (fun e a w hq => by cases e <;> first | exact hq hreg | exact hq))
          · exact same h
        · exact same h
      · rename_i c k _ _
        refine next (w1 := []) h (Keeps.refl _ _) (fun E e1 e2 e0 e4 e5 => ?_)
        intro N a w hN hf hS
        intro hreg
        exact wpIn_again (wp_mono (e5 N a w hN hf hS hreg) (fun e a w hq => by cases e <;> first | exact hq hreg | exact hq))
      · exact same h

/-- a call that answers true, whatever the memory: carried out by the kernel -/
theorem runDA {P : Program} {F : FT} (hF : FTok P F) {Z : ZT} (hZ : ZOk P Z) {g : Nat} {fi : FI} (hg : FOk P g fi) (m : Nat) (u : Bool) (ss : List SV) {args : Array Value} (ha : SV.denL [] ss = some args.toList) (hle : Nat.ble args.size fi.n = true)
    (h : endsTrue fi.T fi.rs (runD F Z u m fi.T fi.B fi.n fi.rs [] [.code fi.body] ⟨argFr ss 0, []⟩) = true) (w : World) :
    Calls P g args w fun e w' => e = .returned (.bool true) ∧ Chg (fun _ _ => False) w w' := by
  obtain ⟨⟨fn, cd, k1, k2, k3, k4, k5, k6⟩, htab, hcall⟩ := hg
  let R : Ending → World → Prop := fun e w' => e = .returned (.bool true) ∧ Chg (fun _ _ => False) w w'
  let E : Ctx := std P fn R w [] [] fi.B
  refine X.enter (P := P) (R := R) E k1 k2 rfl rfl rfl k6 (by rw [← k4]; exact Nat.le_of_ble_eq_true hle) (ss := ss) (rg := []) ha Sat.std0 ?_
  have hrun : ∃ t s ws, runD F Z u m fi.T fi.B fi.n fi.rs [] [.code fi.body] ⟨argFr ss 0, []⟩ = (t, s, ws) := ⟨_, _, _, rfl⟩
  obtain ⟨t, s, ws, hr⟩ := hrun
  rw [hr] at h
  rw [k3] at hr
  refine (runD_ok hF hZ u m fi.T fi.B fi.n fi.rs [] _ _ _ _ _ htab hr).2 E rfl k4.symm rfl (fun _ _ d _ _ h => by cases d <;> exact h) ?_
  have fin : ∀ (s : St) (N : Nums) (a : Act) (w' : World), (match resL fi.T s fi.rs with | some [.bool (.lit true)] => true | _ => false) = true → FrOk E.n N s.fr a → Sat E.toEnv N s.rg w' → bodyPost P fn R .ret a w' := by
    intro s N a w' hres hf hS
    split at hres
    · rename_i hl
      rw [k5] at hl
      obtain ⟨v, q1, q2⟩ := results_run (E := E.toEnv) rfl htab hf hS hl
      refine ⟨hf.defers, v, q2, ?_, hS.chg.none⟩
      simp only [resV, SV.den, SB.den, Option.some.injEq] at q1
      rw [← q1]
    · cases hres
  unfold endsTrue at h
  split at h
  · intro N a w' hN hf hS
    rename_i r k s0 ws0 he
    cases he
    exact sem_ret _ (fin _ N a w' h hf hS)
  · intro N a w' hN hf hS
    rename_i s0 ws0 he
    cases he
    exact fin _ N a w' h hf hS
  · cases h

end Go.Eng

namespace Go.Proofs.YthaffebapmkppaaGreat
open Go Go.Eng

def zCall : SV := .agg [.int .u64 (.lit 0), .int .u8 (.lit 0), .int .u8 (.lit 0), .int .u8 (.lit 0), .int .u64 (.lit 0), .int .i64 (.lit 0), .int .i64 (.lit 0), .int .i64 (.lit 0), .int .u8 (.lit 0), .int .u64 (.lit 0), .int .u64 (.lit 0), .bool (.lit false)]
def zT : ZT := [(82, zCall)]
theorem zT_ok : ZOk Tryz.prog zT := ⟨⟨_, Tryz.zeroValue82, fun N => rfl⟩, trivial⟩

set_option maxRecDepth 1000000 in
theorem awake18_ok (w : World) : Calls Tryz.prog 21 #[] w fun e w' => e = .returned (.bool true) ∧ Chg (fun _ _ => False) w w' :=
  runDA FALL_ok zT_ok F21_ok 4000 true [] rfl rfl (by kernel_rfl) w

end Go.Proofs.YthaffebapmkppaaGreat

namespace Go.Proofs.YthaffebapmkppaaGreat
open Go Go.Eng

/-- a call whose results the kernel finds, and hang on nothing -/
theorem told_run {P : Program} {F : FT} (hF : FTok P F) {g : Nat} {fi : FI} (hg : FOk P g fi) (m : Nat) (ss : List SV) {args : Array Value} (ha : SV.denL [] ss = some args.toList) (hle : Nat.ble args.size fi.n = true) {l : List SV} {v : Value} (hv : ∀ N, (resV l).den N = some v)
    (h : runEnds fi.T fi.rs (runC F true m fi.T fi.B fi.n fi.rs [] [.code fi.body] ⟨argFr ss 0, []⟩) = some l) (w : World) : Calls P g args w fun e w' => e = .returned v ∧ Chg (fun _ _ => False) w w' :=
  (runR hF hg m true ss ha hle h w).mono fun e w' ⟨N, u, h1, h2, h3⟩ => by
    rw [hv N] at h2
    cases h2
    exact ⟨h1, h3⟩

def opS (o : OpP) : SV := .agg [.int .u8 (.v o.kind), .int .u8 (.v o.key), .int .u8 (.v o.client), .int .u64 (.v o.seq), .int .i64 (.v o.action), .int .i64 (.v o.party), .int .i64 (.v o.arg), .int .u8 (.v o.source), .int .u64 (.v o.inc), .int .u64 (.v o.cell)]

set_option maxRecDepth 1000000 in
theorem callN_ok (o : OpP) (w : World) : Calls Tryz.prog 22 #[.pointer none, .agg o.vals.toArray, .bool false] w fun e w' => e = .returned (.tuple #[.int .u64 0, .int .i64 1]) ∧ Chg (fun _ _ => False) w w' :=
  told_run FALL_ok F22_ok 200 [.raw (.pointer none), opS o, .bool (.lit false)] rfl rfl (l := [.int .u64 (.lit 0), .int .i64 (.lit 1)]) (fun _ => rfl) (by kernel_rfl) w
def nil2 : List SV := [.raw (.slice none 0 0), .raw (.slice none 0 0)]
set_option maxRecDepth 1000000 in
theorem pushN_ok (C : Nat) (po pn : Option Addr) (no nn co cn : Nat) (key : Int) (w : World) : Calls Tryz.prog 23 #[.pointer none, .agg #[.int .u64 C, .slice po no co, .slice pn nn cn], .int .u8 key] w fun e w' => e = .returned (.tuple #[.slice none 0 0, .slice none 0 0]) ∧ Chg (fun _ _ => False) w w' :=
  told_run FALL_ok F23_ok 200 [.raw (.pointer none), .agg [.int .u64 (.nat C), .slv po no co, .slv pn nn cn], .int .u8 (.v key)] rfl rfl (l := nil2) (fun _ => rfl) (by kernel_rfl) w
set_option maxRecDepth 1000000 in
theorem retryN_ok (C : Nat) (po pn : Option Addr) (no nn co cn : Nat) (key : Int) (w : World) : Calls Tryz.prog 24 #[.pointer none, .agg #[.int .u64 C, .slice po no co, .slice pn nn cn], .int .u8 key] w fun e w' => e = .returned (.tuple #[.slice none 0 0, .slice none 0 0]) ∧ Chg (fun _ _ => False) w w' :=
  told_run FALL_ok F24_ok 200 [.raw (.pointer none), .agg [.int .u64 (.nat C), .slv po no co, .slv pn nn cn], .int .u8 (.v key)] rfl rfl (l := nil2) (fun _ => rfl) (by kernel_rfl) w

structure MsgC where
  (k s t y c b1 b2 b3 : Int) (ok : Bool) (a1 a2 a3 rk ri rs : Int) (p1 : Option Addr) (n1 c1 : Nat) (p2 : Option Addr) (n2 c2 : Nat) (p3 : Option Addr) (n3 c3 : Nat) (rl : Int) (p4 : Option Addr) (n4 c4 : Nat) (x1 x2 x3 mx : Int)
def MsgC.sv (m : MsgC) : List SV := [.int .u8 (.v m.k), .int .u8 (.v m.s), .int .u8 (.v m.t), .int .u8 (.v m.y), .int .u64 (.v m.c), .int .u64 (.v m.b1), .int .u8 (.v m.b2), .int .u32 (.v m.b3), .bool (.v m.ok), .int .u64 (.v m.a1), .int .u8 (.v m.a2), .int .u32 (.v m.a3), .int .u8 (.v m.rk), .int .u64 (.v m.ri), .int .i64 (.v m.rs), .slv m.p1 m.n1 m.c1, .slv m.p2 m.n2 m.c2, .slv m.p3 m.n3 m.c3, .int .u64 (.v m.rl), .slv m.p4 m.n4 m.c4, .int .u64 (.v m.x1), .int .u8 (.v m.x2), .int .u32 (.v m.x3), .int .u64 (.v m.mx)]
def MsgC.vals (m : MsgC) : List Value := [.int .u8 m.k, .int .u8 m.s, .int .u8 m.t, .int .u8 m.y, .int .u64 m.c, .int .u64 m.b1, .int .u8 m.b2, .int .u32 m.b3, .bool m.ok, .int .u64 m.a1, .int .u8 m.a2, .int .u32 m.a3, .int .u8 m.rk, .int .u64 m.ri, .int .i64 m.rs, .slice m.p1 m.n1 m.c1, .slice m.p2 m.n2 m.c2, .slice m.p3 m.n3 m.c3, .int .u64 m.rl, .slice m.p4 m.n4 m.c4, .int .u64 m.x1, .int .u8 m.x2, .int .u32 m.x3, .int .u64 m.mx]
def MsgC.reg (m : MsgC) : List Value := [.int .u8 m.rk, .int .u64 m.ri, .int .i64 m.rs, .slice m.p1 m.n1 m.c1, .slice m.p2 m.n2 m.c2, .slice m.p3 m.n3 m.c3, .int .u64 m.rl, .slice m.p4 m.n4 m.c4]
theorem MsgP.cells {x : MsgP} {M : Mem} {vs : List Value} (h : RepL M x.toD vs) : ∃ m : MsgC, vs = m.vals ∧ RepL M x.reg.toD m.reg := by
  obtain ⟨rv, rfl, hr⟩ := MsgP.open h
  obtain ⟨p1, c1, p2, c2, p3, c3, p4, c4, rfl, _⟩ := RegP.open hr
  exact ⟨⟨x.kind, x.sender, x.to, x.key, x.conf, x.b.count, x.b.node, x.b.life, x.ok, x.acc.count, x.acc.node, x.acc.life, x.reg.kind, x.reg.inc, x.reg.state, p1, _, c1, p2, _, c2, p3, _, c3, x.reg.last, p4, _, c4, x.next.count, x.next.node, x.next.life, x.max⟩, rfl, hr⟩
set_option maxRecDepth 1000000 in
theorem toldN_ok (C : Nat) (po pn : Option Addr) (no nn co cn : Nat) (m : MsgC) (w : World) : Calls Tryz.prog 25 #[.pointer none, .agg #[.int .u64 C, .slice po no co, .slice pn nn cn], .agg m.vals.toArray] w fun e w' => e = .returned (.tuple #[.slice none 0 0, .slice none 0 0]) ∧ Chg (fun _ _ => False) w w' :=
  told_run FALL_ok F25_ok 200 [.raw (.pointer none), .agg [.int .u64 (.nat C), .slv po no co, .slv pn nn cn], .agg m.sv] rfl rfl (l := nil2) (fun _ => rfl) (by kernel_rfl) w
def zRound : SV := .agg ti41.zero
def zCall' : SV := .agg ti82.zero
set_option maxRecDepth 1000000 in
theorem activeN_ok (key : Int) (w : World) : Calls Tryz.prog 26 #[.pointer none, .int .u8 key] w fun e w' => (∃ v, (∀ N, (resV [zCall', zRound, .bool (.lit false)]).den N = some v) ∧ e = .returned v) ∧ Chg (fun _ _ => False) w w' :=
  (runR FALL_ok F26_ok 200 true [.raw (.pointer none), .int .u8 (.v key)] rfl rfl (l := [zCall', zRound, .bool (.lit false)]) (by kernel_rfl) w).mono fun e w' ⟨N, v, h1, h2, h3⟩ => ⟨⟨v, fun N' => h2, h1⟩, h3⟩
set_option maxRecDepth 1000000 in
theorem dropN_ok (key : Int) (w : World) : Calls Tryz.prog 27 #[.pointer none, .int .u8 key] w fun e w' => e = .returned (.slice none 0 0) ∧ Chg (fun _ _ => False) w w' :=
  told_run FALL_ok F27_ok 200 [.raw (.pointer none), .int .u8 (.v key)] rfl rfl (l := [.raw (.slice none 0 0)]) (fun _ => rfl) (by kernel_rfl) w
set_option maxRecDepth 1000000 in
theorem waitsN_ok (key : Int) (w : World) : Calls Tryz.prog 28 #[.pointer none, .int .u8 key] w fun e w' => e = .returned (.int .i64 0) ∧ Chg (fun _ _ => False) w w' :=
  told_run FALL_ok F28_ok 200 [.raw (.pointer none), .int .u8 (.v key)] rfl rfl (l := [.int .i64 (.lit 0)]) (fun _ => rfl) (by kernel_rfl) w
set_option maxRecDepth 1000000 in
theorem seenN_ok (w : World) : Calls Tryz.prog 29 #[.pointer none] w fun e w' => e = .returned (.int .u64 0) ∧ Chg (fun _ _ => False) w w' :=
  told_run FALL_ok F29_ok 200 [.raw (.pointer none)] rfl rfl (l := [.int .u64 (.lit 0)]) (fun _ => rfl) (by kernel_rfl) w

end Go.Proofs.YthaffebapmkppaaGreat

namespace Go.Proofs.YthaffebapmkppaaGreat
open Go Go.Eng

set_option maxHeartbeats 8000000 in
set_option maxRecDepth 100000 in
set_option cbv.maxSteps 100000000 in
theorem proposeNil_ok (o : OpP) (C : Nat) (po pn : Option Addr) (no nn co cn : Nat) (key : Int) (x : MsgP) (m : MsgC) (w : World) (hm : RepL (wm w) x.reg.toD m.reg) :
    Calls Tryz.prog 6 #[.agg o.vals.toArray, .agg #[.int .u64 C, .slice po no co, .slice pn nn cn], .int .u8 key, .agg m.vals.toArray] w fun e w' => e = .returned (.bool true) ∧ Chg (fun _ _ => False) w w' := by
  obtain ⟨Q, hQ⟩ : ∃ Q : Ending → World → Prop, Q = fun e w' => e = .returned (.bool true) ∧ Chg (fun _ _ => False) w w' := ⟨_, rfl⟩
  rw [← hQ]
  obtain ⟨k, s, t, y, c, b1, b2, b3, ok, a1, a2, a3, rk, ri, rs, p1, n1, c1, p2, n2, c2, p3, n3, c3, rl, p4, n4, c4, x1, x2, x3, mx⟩ := m
  obtain ⟨o1, o2, o3, o4, o5, o6, o7, o8, o9, o10⟩ := o
  refine X.begin (rg := []) (N := []) (ss := [opS ⟨o1, o2, o3, o4, o5, o6, o7, o8, o9, o10⟩, .agg [.int .u64 (.nat C), .slv po no co, .slv pn nn cn], .int .u8 (.v key), .agg (MsgC.sv ⟨k, s, t, y, c, b1, b2, b3, ok, a1, a2, a3, rk, ri, rs, p1, n1, c1, p2, n2, c2, p3, n3, c3, rl, p4, n4, c4, x1, x2, x3, mx⟩)]) Tryz.func6 rfl B6_ok rfl rfl Sat.std0 ?_
  obtain ⟨g, hg⟩ : ∃ g, g = B x.reg.great := ⟨_, rfl⟩
  refine X.goX ([(34, .bool (.v g))]) ([]) T6_ok 400 _ rfl Tryz.results6 (fun pr pe fin hpr hpe hfin => ?_)
  conv => cbv
  refine ⟨hpr _ (.of Tryz.call8 [.agg #[.int .u8 rk, .int .u64 ri, .int .i64 rs, .slice p1 n1 c1, .slice p2 n2 c2, .slice p3 n3 c3, .int .u64 rl, .slice p4 n4 c4]] (.bool g) (fun _ => rfl) (fun _ => rfl) fun _ w1 him => by
    rw [hg]
    exact great06_ok x.reg _ w1 (RepL.mono (fun k o v h => him k o v (his h)) _ hm)), hfin _ _ ?_⟩
  clear hpr hpe hfin
  have aw : ∀ {rg : List Rg}, CallOk (mkE Tryz.prog Tryz.f6 Q w (InR [] []) (elsewhere [] [] w) (fun _ _ => False) (fun _ => True) [] B6).toEnv [] rg .yes 21 [] (.bool (.lit true)) := fun {rg} =>
    .of Tryz.call21 [] (.bool true) (fun _ => rfl) (fun _ => rfl) fun _ w1 him => awake18_ok w1
  refine X.cond rfl (fun _ => ?_) (fun _ => ?_)
  · skip
    refine X.goX ([(36, .bool (.lit true))]) ([]) T6_ok 400 _ rfl Tryz.results6 (fun pr pe fin hpr hpe hfin => ?_)
    conv => cbv
    refine ⟨hpr _ aw, hfin _ _ ?_⟩
    exact X.done T6_ok rfl (fun N w' v hN hS hv => by rw [hQ]; exact ⟨fin_bool hv rfl, hS.chg.none⟩)
  · skip
    refine X.goX ([(40, .tup [.int .u64 (.lit 0), .int .i64 (.lit 1)]), (47, .tup nil2), (54, .tup nil2), (61, .tup nil2), (67, .tup [zCall', zRound, .bool (.lit false)]), (102, .raw (.slice none 0 0)), (113, .int .i64 (.lit 0)), (118, .int .u64 (.lit 0)), (122, .bool (.lit true))]) ([]) T6_ok 400 _ rfl Tryz.results6 (fun pr pe fin hpr hpe hfin => ?_)
    conv => cbv
    refine ⟨hpr _ (.of Tryz.call22 [.pointer none, .agg (OpP.vals ⟨o1, o2, o3, o4, o5, o6, o7, o8, o9, o10⟩).toArray, .bool false] (.tuple #[.int .u64 0, .int .i64 1]) (fun _ => rfl) (fun _ => rfl) fun _ w1 him => callN_ok ⟨o1, o2, o3, o4, o5, o6, o7, o8, o9, o10⟩ w1),
      hpr _ (.of Tryz.call23 [.pointer none, .agg #[.int .u64 C, .slice po no co, .slice pn nn cn], .int .u8 key] (.tuple #[.slice none 0 0, .slice none 0 0]) (fun _ => rfl) (fun _ => rfl) fun _ w1 him => pushN_ok C po pn no nn co cn key w1),
      hpr _ (.of Tryz.call24 [.pointer none, .agg #[.int .u64 C, .slice po no co, .slice pn nn cn], .int .u8 key] (.tuple #[.slice none 0 0, .slice none 0 0]) (fun _ => rfl) (fun _ => rfl) fun _ w1 him => retryN_ok C po pn no nn co cn key w1),
      hpr _ (.of Tryz.call25 [.pointer none, .agg #[.int .u64 C, .slice po no co, .slice pn nn cn], .agg (MsgC.vals ⟨k, s, t, y, c, b1, b2, b3, ok, a1, a2, a3, rk, ri, rs, p1, n1, c1, p2, n2, c2, p3, n3, c3, rl, p4, n4, c4, x1, x2, x3, mx⟩).toArray] (.tuple #[.slice none 0 0, .slice none 0 0]) (fun _ => rfl) (fun _ => rfl) fun _ w1 him => toldN_ok C po pn no nn co cn ⟨k, s, t, y, c, b1, b2, b3, ok, a1, a2, a3, rk, ri, rs, p1, n1, c1, p2, n2, c2, p3, n3, c3, rl, p4, n4, c4, x1, x2, x3, mx⟩ w1),
      hpr _ (fun _ => ⟨Tryz.call26, fun N w1 args _ hS ha => by
        have ha : args = [.pointer none, .int .u8 key] := (Option.some.inj ha).symm
        rw [ha]
        exact (activeN_ok key w1).mono fun e w' ⟨⟨v, h1, h2⟩, h3⟩ => ⟨v, h2, h1 N, h3⟩⟩),
      hpr _ (.of Tryz.call27 [.pointer none, .int .u8 key] (.slice none 0 0) (fun _ => rfl) (fun _ => rfl) fun _ w1 him => dropN_ok key w1),
      hpr _ (.of Tryz.call28 [.pointer none, .int .u8 key] (.int .i64 0) (fun _ => rfl) (fun _ => rfl) fun _ w1 him => waitsN_ok key w1),
      hpr _ (.of Tryz.call29 [.pointer none] (.int .u64 0) (fun _ => rfl) (fun _ => rfl) fun _ w1 him => seenN_ok w1),
      hpr _ aw, hfin _ _ ?_⟩
    exact X.done T6_ok rfl (fun N w' v hN hS hv => by rw [hQ]; exact ⟨fin_bool hv rfl, hS.chg.none⟩)

end Go.Proofs.YthaffebapmkppaaGreat
