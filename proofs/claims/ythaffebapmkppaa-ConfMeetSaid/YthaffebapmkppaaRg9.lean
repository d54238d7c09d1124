/- The symbolic executor, part 33: runs in which effects, too, are told ahead: what an operation makes, or writes; what is to be shown for them is collected. The symbolic executor, part 34: effects that are told: by the executor's own equation; calls that hand back a new row, or turn one. The symbolic executor, part 35: parts of slices, their bounds told; rows written behind what is known of them. Configurations: slices.Insert of one byte into a row of one's own. The symbolic executor, part 36: 'clear'. Configurations: slices.Delete of one byte of a row of one's own. The symbolic executor, part 37: regions told in another order. The symbolic executor, part 38: a row that is laid for a call alone (a variadic argument). -/
import Derived.Test.YthaffebapmkppaaRb3
import Derived.Test.YthaffebapmkppaaCf18
import Derived.Lib.Overlaps

namespace Go.Eng
open Go

/-- what an operation is told to do: what it yields, which regions it sets, which ones are new -/
structure Ef where
  r : List Rg → SV
  sets : List (Nat × Rg)
  news : List Rg

def setsE : List (Nat × Rg) → List Rg → List Rg
  | [], rg => rg
  | (r, g) :: l, rg => setsE l (rg.set r g)
def snoc (rg : List Rg) : List Rg → List Rg
  | [] => rg
  | g :: l => rg ++ (g :: l)
def fsts : List (Nat × Rg) → List Nat
  | [] => []
  | (r, _) :: l => r :: fsts l
def Ef.up (e : Ef) (rg : List Rg) : List Rg := snoc (setsE e.sets rg) e.news
def Ef.ks (e : Ef) : List Nat := fsts e.sets

theorem snoc_eq (rg l : List Rg) : snoc rg l = rg ++ l := by cases l <;> simp [snoc]
theorem setsE_length : ∀ (l : List (Nat × Rg)) (rg : List Rg), (setsE l rg).length = rg.length
  | [], _ => rfl
  | (r, g) :: l, rg => by simp [setsE, setsE_length l]
theorem setsE_get : ∀ (l : List (Nat × Rg)) (rg : List Rg) (r : Nat), memN (fsts l) r = false → (setsE l rg)[r]? = rg[r]?
  | [], _, _, _ => rfl
  | (q, g) :: l, rg, r, h => by
    simp only [fsts, memN, Bool.or_eq_false_iff] at h
    have hne : q ≠ r := fun e => by subst e; simp at h
    rw [setsE, setsE_get l _ r h.2, List.getElem?_set_ne hne]
theorem Ef.keeps (e : Ef) (rg : List Rg) : Agree e.ks rg (e.up rg) ∧ rg.length ≤ (e.up rg).length := by
  constructor
  · intro r g hg hm
    have hl := (List.getElem?_eq_some_iff.1 hg).1
    rw [Ef.up, snoc_eq, List.getElem?_append_left (by rw [setsE_length]; exact hl), setsE_get _ _ _ hm]
    exact hg
  · rw [Ef.up, snoc_eq, List.length_append, setsE_length]; omega

/-- what an operation does: at once, or by a call -/
def Effs (P : Program) (ρ : Operand → Value) (o : Oper) (w : World) (K : Value → World → Prop) : Prop :=
  (∃ v w', Yields P ρ o w v w' ∧ K v w') ∨ ∃ g args, (execOp ρ o).run P w = .ok (.enter g args) w ∧ Calls P g args w fun e w' => ∃ v, e = .returned v ∧ K v w'

theorem wp_of_effs {P : Program} {o : Oper} {a : Act} {w : World} {K' : Value → World → Prop} (h : Effs P a.eval o w K') {K : Act → World → Prop} {Q : Exit → Act → World → Prop} (hK : ∀ v w', K' v w' → K (a.put o.dst v) w') : o.wp P a w K Q := by
  rcases h with ⟨v, w', hy, hv⟩ | ⟨g, args, he, hc⟩
  · exact wp_of_yields hy (hK v w' hv)
  · unfold Oper.wp
    rw [he]
    refine Calls.mono hc fun e w' ⟨v, he, hv⟩ => ?_
    subst he
    exact hK v w' hv

def EffOk (E : Env) (N0 : Nums) (rg : List Rg) (f : Fr) (op : Op) (r : SV) (rg' : List Rg) : Prop :=
  ∀ (N : Nums) (ρ : Operand → Value) (o : Oper) (w : World), N0.le N → o.op = op → (∀ x s, ev f x = some s → s.den N = some (ρ x)) → Sat E N rg w →
    Effs E.P ρ o w fun v w' => ∃ N', N.le N' ∧ r.den N' = some v ∧ Sat E N' rg' w'

def lookE : List (Nat × Ef) → Nat → Option Ef
  | [], _ => none
  | (k, v) :: r, t => bif Nat.beq k t then some v else lookE r t

/-- an effect's name: the slot that it writes, or 1000 and its place -/
def keyE (o : Oper) (i : Nat) : Nat := match o.dst with
  | some d => d
  | none => 1000 + i

def effQ (tx : List (Nat × Ef)) (n : Nat) (all : Array Oper) (i : Nat) (s : St) : Option (Fr × Op × Ef) :=
  match nth all.toList i with
  | none => none
  | some o => match lookE tx (keyE o i) with
    | some e => bif sure all s.fr o then match putO n s.fr o.dst (.val (e.r s.rg)) with
        | some f => some (f, o.op, e)
        | none => none
      else none
    | none => none

theorem effQ_sound {E : Env} {tx : List (Nat × Ef)} {N N0 : Nums} {s : St} {a : Act} {all : Array Oper} {i : Nat} {o : Oper} {w : World} {f : Fr} {op : Op} {e : Ef} (ho : all[i]? = some o) (hq : effQ tx E.n all i s = some (f, op, e))
    (hob : EffOk E N0 s.rg s.fr op (e.r s.rg) (e.up s.rg)) (hN0 : N0.le N) (hf : FrOk E.n N s.fr a) (hS : Sat E N s.rg w) :
    Region.wanted o (yielded all a.tmps) = true ∧ ∀ (K : Act → World → Prop) (Q : Exit → Act → World → Prop), (∀ N' x w', N.le N' → FrOk E.n N' f (a.put o.dst x) → Sat E N' (e.up s.rg) w' → K (a.put o.dst x) w') → o.wp E.P a w K Q := by
  have ho' : nth all.toList i = some o := by rw [nth_eq]; simpa using ho
  unfold effQ at hq
  simp only [ho'] at hq
  split at hq
  · rename_i e0 _
    obtain ⟨hsu, hq⟩ := bif_none hq
    split at hq
    · rename_i f1 hp
      simp only [Option.some.injEq, Prod.mk.injEq] at hq
      obtain ⟨rfl, rfl, rfl⟩ := hq
      refine ⟨sure_sound hf hsu, fun K Q hK => ?_⟩
      exact wp_of_effs (hob N a.eval o w hN0 rfl (fun x s hx => ev_sound hf hx) hS) fun v w' ⟨N', h1, h2, h3⟩ => hK N' v w' h1 (putO_sound (hf.mono h1) h2 hp) h3
    · cases hq
  · cases hq

abbrev PE := List Rg → Fr → Op → SV → List Rg → Prop

def stepX (pe : PE) (pr : Owe → Prop) (td : List (Nat × SV)) (tx : List (Nat × Ef)) (T : Tab) (n : Nat) (all : Array Oper) (K : KW) (i : Nat) (c : St → Prop) (s : St) : Prop :=
  match effQ tx n all i s with
  | some (f, op, e) => allN (lookK K i) e.ks = true ∧ pe s.rg s.fr op (e.r s.rg) (e.up s.rg) ∧ c ⟨f, e.up s.rg⟩
  | none => stepT pr td T n all K i c s

def anyX (pe : PE) (pr : Owe → Prop) (fin : St → Prop) (td : List (Nat × SV)) (tx : List (Nat × Ef)) (T : Tab) (n : Nat) (all : Array Oper) (K : KW) (rg : List Rg) : STree → St → Prop
  | .nil, s => fin s
  | .q i blk r, s => quietK K i = true ∧ match qP td T n all (maskRg (flatK (memB blk) K) rg 0) i s.fr with
    | some (f, o) => prL pr o (anyX pe pr fin td tx T n all K rg r ⟨f, s.rg⟩)
    | none => False
  | .one i r, s => stepX pe pr td tx T n all K i (fun s' => anyX pe pr fin td tx T n all K rg r s') s
  | .two i j x y, s => stepX pe pr td tx T n all K i (fun s' => anyX pe pr fin td tx T n all K rg x s') s ∧ stepX pe pr td tx T n all K j (fun s' => anyX pe pr fin td tx T n all K rg y s') s

def dry1 (td : List (Nat × SV)) (tx : List (Nat × Ef)) (T : Tab) (n : Nat) (all : Array Oper) (i : Nat) (c : St → KW) (s : St) : KW :=
  match effQ tx n all i s with
  | some (f, _, e) => (i, e.ks) :: c ⟨f, e.up s.rg⟩
  | none => match qP td T n all s.rg i s.fr with
    | some (f, _) => c ⟨f, s.rg⟩
    | none => match opE T n all i s with
      | some s' => match stR s.fr all i with
        | some k => (i, [k]) :: c s'
        | none => c s'
      | none => match pcall td n all i s.fr with
        | some (f, _) => c ⟨f, s.rg⟩
        | none => []

def addK (i : Nat) (ks : List Nat) : KW → KW
  | [] => [(i, ks)]
  | (j, l) :: r => bif Nat.beq j i then (j, app ks l) :: r else (j, l) :: addK i ks r
def mergeK : KW → KW → KW
  | [], K => K
  | (i, ks) :: r, K => mergeK r (addK i ks K)

/-- what is written, and by which -/
def dryX (td : List (Nat × SV)) (tx : List (Nat × Ef)) (T : Tab) (n : Nat) (all : Array Oper) : STree → St → KW
  | .nil, _ => []
  | .q i _ r, s => match qP td T n all s.rg i s.fr with
    | some (f, _) => dryX td tx T n all r ⟨f, s.rg⟩
    | none => []
  | .one i r, s => dry1 td tx T n all i (fun s' => dryX td tx T n all r s') s
  | .two i j x y, s => mergeK (dry1 td tx T n all i (fun s' => dryX td tx T n all x s') s) (dry1 td tx T n all j (fun s' => dryX td tx T n all y s') s)

theorem anyX_sound {E : Env} {T : Tab} (hT : TabOk E.P T) {td : List (Nat × SV)} {tx : List (Nat × Ef)} {all : Array Oper} (hsel : Region.noSelect all = true) {Q : Exit → Act → World → Prop} (hQ : PanicOk Q) {N0 : Nums} {K : KW} {rg : List Rg} {fin : St → Prop} {Nf : Nums} (wf : World) (hV : Vis Nf rg wf) : ∀ (t : STree) (m : Nat) (listed : Array Bool) {s : St} {N : Nums} {a : Act} {w : World},
    treeOk all t m listed = true → listed.size = all.size → anyX (EffOk E N0) (Owe.Ok E N0) fin td tx T E.n all K rg t s → Nf.le N → N0.le N → FrOk E.n N s.fr a → Sat E N s.rg w → Agree (wrL K listed) rg s.rg → rg.length ≤ s.rg.length →
    (∀ s' N' a' w', fin s' → N.le N' → FrOk E.n N' s'.fr a' → Sat E N' s'.rg w' → Q .normal a' w') → wpF E.P all Q (fun L => VI E.im Nf (maskRg (wrL K L) rg 0)) m listed a w := by
  have emp : ∀ {l : List Nat}, l.isEmpty = true → l = [] := by intro l h; cases l <;> simp at h ⊢
  have see : ∀ (L : Array Bool) {N : Nums} {rg' : List Rg} {w : World}, Nf.le N → Agree (wrL K L) rg rg' → Sat E N rg' w → VI E.im Nf (maskRg (wrL K L) rg 0) w := fun L _ _ _ hN ha hS => ⟨vis_of_agree (hV.mask _) hN ha hS, hS.imm⟩
  -- one operation that is ready
  have step : ∀ (m : Nat) (listed : Array Bool) (i : Nat) (c : St → Prop) {s : St} {N : Nums} {a : Act} {w : World}, i ∈ Region.ready .any all listed → listed.size = all.size → stepX (EffOk E N0) (Owe.Ok E N0) td tx T E.n all K i c s → Nf.le N → N0.le N → FrOk E.n N s.fr a → Sat E N s.rg w → Agree (wrL K listed) rg s.rg → rg.length ≤ s.rg.length →
      (∀ s' N' a' w', c s' → N.le N' → FrOk E.n N' s'.fr a' → Sat E N' s'.rg w' → Agree (wrL K (listed.setIfInBounds i true)) rg s'.rg → rg.length ≤ s'.rg.length → wpF E.P all Q (fun L => VI E.im Nf (maskRg (wrL K L) rg 0)) m (listed.setIfInBounds i true) a' w') →
      wpOp E.P all Q i (fun a' w' => VI E.im Nf (maskRg (wrL K (listed.setIfInBounds i true)) rg 0) w' ∧ wpF E.P all Q (fun L => VI E.im Nf (maskRg (wrL K L) rg 0)) m (listed.setIfInBounds i true) a' w') a w := by
    intro m listed i c s N a w hrm hn hg hN hN0 hf hS ha hl hk
    have hlt : i < listed.size := by
      obtain ⟨_, o, ho, _⟩ := mem_ready.1 hrm
      rw [hn]; exact (Array.getElem?_eq_some_iff.1 ho).1
    have hset : (listed.setIfInBounds i true).getD i false = true := by simp [hlt]
    have grow : ∀ r, memN (wrL K listed) r = true → memN (wrL K (listed.setIfInBounds i true)) r = true := fun r h => by
      obtain ⟨p, h1, h2, h3⟩ := memN_flat.1 h
      refine memN_flat.2 ⟨p, h1, ?_, h3⟩
      by_cases e : i = p.1
      · rw [← e]; exact hset
      · rw [getD_set_ne false e]; exact h2
    have own : ∀ k, memN (lookK K i) k = true → memN (wrL K (listed.setIfInBounds i true)) k = true := fun k hk => by
      obtain ⟨p, h1, h2, h3⟩ := lookK_mem hk
      exact memN_flat.2 ⟨p, h1, by rw [h2]; exact hset, h3⟩
    have ha1 : Agree (wrL K (listed.setIfInBounds i true)) rg s.rg := ha.mono fun r hr => by
      cases hx : memN (wrL K listed) r with
      | true => rw [grow r hx] at hr; cases hr
      | false => rfl
    obtain ⟨_, o, ho, _⟩ := mem_ready.1 hrm
    unfold stepX at hg
    unfold wpOp
    simp only [ho]
    split at hg
    · rename_i f op e hq
      obtain ⟨hmk, hob, hg⟩ := hg
      obtain ⟨hw, hx⟩ := effQ_sound ho hq hob hN0 hf hS
      obtain ⟨hk1, hk2⟩ := e.keeps s.rg
      have ha2 : Agree (wrL K (listed.setIfInBounds i true)) rg (e.up s.rg) := fun r g hg hr => hk1 r g (ha1 r g hg hr) (allN_spec hmk r (by
        cases hx : memN (lookK K i) r with
        | true => rw [own r hx] at hr; cases hr
        | false => rfl))
      rw [hw, if_pos rfl]
      exact .inl (hx _ _ fun N' x w' hN' hf' hS' => ⟨see _ (hN.trans hN') ha2 hS', hk _ N' _ w' hg hN' hf' hS' ha2 (Nat.le_trans hl hk2)⟩)
    unfold stepT at hg
    split at hg
    · rename_i f ob hq
      obtain ⟨hob, hg⟩ := prL_spec hg
      obtain ⟨v, hv, hfr⟩ := qP_sound hT ho hq hob hN0 hf hS.vi
      have hnext := hk _ N _ w hg (Nums.le.refl N) hfr hS ha1 hl
      rcases hv with ⟨hw, hrun⟩ | ⟨hw, rfl⟩
      · rw [hw, if_pos rfl]
        exact .inl (wp_of_yields (.inl (hrun w hS.vi)) ⟨see _ hN ha1 hS, hnext⟩)
      · rw [hw]
        exact ⟨see _ hN ha1 hS, hnext⟩
    · split at hg
      · rename_i s1 he
        obtain ⟨hmk, hg2⟩ := hg
        obtain ⟨hw, N', x, w', hN', hy, hf', hS'⟩ := opE_sound hT (by simpa using ho) he hf hS
        have ha2 := stepE_agree (ks := wrL K (listed.setIfInBounds i true)) ha1 hl (by
          split
          · rename_i k hk'
            rw [hk'] at hmk
            exact own k hmk
          · rfl) he
        rw [hw, if_pos rfl]
        exact .inl (wp_of_yields hy ⟨see _ (hN.trans hN') ha2.1 hS', hk _ N' _ _ hg2 hN' hf' hS' ha2.1 ha2.2⟩)
      · split at hg
        · rename_i f gk g l v hpc
          obtain ⟨hob, hg⟩ := hg
          rcases pcall_sound ho hpc hob hN0 hf hS with ⟨hw, hx⟩ | ⟨hw, hf'⟩
          · rw [hw, if_pos rfl]
            exact .inl (hx _ _ fun x w' hf' hS' => ⟨see _ hN ha1 hS', hk _ N _ w' hg (Nums.le.refl N) hf' hS' ha1 hl⟩)
          · rw [hw]
            exact ⟨see _ hN ha1 hS, hk _ N _ w hg (Nums.le.refl N) hf' hS ha1 hl⟩
        · exact hg.elim
  intro t
  induction t with
  | nil =>
    intro m listed s N a w hs hn hg hN hN0 hf hS ha hl hk
    simp only [treeOk, Bool.and_eq_true] at hs
    obtain rfl := Nat.eq_of_beq_eq_true hs.1
    exact wpF.done (emp hs.2) (hk s N a w hg (Nums.le.refl N) hf hS)
  | q i blk r ih =>
    intro m listed s N a w hs hn hg hN hN0 hf hS ha hl hk
    cases m with
    | zero => simp [treeOk] at hs
    | succ m =>
      have hS0 := see listed hN ha hS
      simp only [treeOk, Bool.and_eq_true] at hs
      obtain ⟨⟨⟨⟨hr, hfree⟩, hclosed⟩, hwithin⟩, hs⟩ := hs
      simp only [anyX] at hg
      obtain ⟨hqk, hg⟩ := hg
      have hqk := quietK_spec hqk
      have hrm : i ∈ Region.ready .any all listed := by simpa using hr
      have hi0 : listed.getD i false = false := by
        have h1 := (mem_ready.1 hrm).1
        rcases Nat.lt_or_ge i listed.size with h' | h'
        · simp [h'] at h1 ⊢; exact h1
        · rw [Array.getD_eq_getD_getElem?, Array.getElem?_eq_none h']; rfl
      have same : ∀ (L : Array Bool) (r : Nat), memN (wrL K (L.setIfInBounds i true)) r = true ↔ memN (wrL K L) r = true := fun L r => by
        simp only [wrL, memN_flat]
        constructor
        · rintro ⟨p, h1, h2, h3⟩
          exact ⟨p, h1, by rwa [getD_set_ne false (fun e => hqk p h1 e.symm)] at h2, h3⟩
        · rintro ⟨p, h1, h2, h3⟩
          exact ⟨p, h1, by rwa [getD_set_ne false (fun e => hqk p h1 e.symm)], h3⟩
      split at hg
      · rename_i f ob hq
        obtain ⟨_, o, ho, _⟩ := mem_ready.1 hrm
        obtain ⟨hob, hg⟩ := prL_spec hg
        have wide : ∀ {L' : Array Bool} {w' : World}, Up all i listed L' → VI E.im Nf (maskRg (wrL K L') rg 0) w' → VI E.im Nf (maskRg (flatK (memB blk) K) rg 0) w' := fun hup hv =>
          ⟨hv.1.more fun r hr => by
            obtain ⟨p, h1, h2, h3⟩ := memN_flat.1 hr
            exact memN_flat.2 ⟨p, h1, (hup.within hclosed hn hi0 hwithin).2.2 _ h2, h3⟩, hv.2⟩
        obtain ⟨v, hv, hfr⟩ := qP_sound hT ho hq hob hN0 hf ((wide .here hS0).mono hN)
        refine wpF.take (S := fun L => VI E.im Nf (maskRg (wrL K L) rg 0)) ho hsel hfree hr (fun c a w h => hQ c a o.dst v w h) (fun L w => ⟨fun h => ⟨h.1.more fun r hr => (same L r).1 hr, h.2⟩, fun h => ⟨h.1.more fun r hr => (same L r).2 hr, h.2⟩⟩) ?_ hS0
          (ih m _ hs (by simpa using hn) hg hN hN0 hfr hS (fun r g hg hm => ha r g hg (by
            cases hx : memN (wrL K listed) r with
            | true => rw [(same listed r).2 hx] at hm; cases hm
            | false => rfl)) hl hk)
        rcases hv with ⟨hw, hrun⟩ | ⟨hw, rfl⟩
        · exact .inl ⟨hw, fun w ⟨L', hup, hw⟩ => hrun w ((wide hup hw).mono hN)⟩
        · exact .inr ⟨hw, rfl⟩
      · exact hg.elim
  | one i r ih =>
    intro m listed s N a w hs hn hg hN hN0 hf hS ha hl hk
    cases m with
    | zero => simp [treeOk] at hs
    | succ m =>
      simp only [treeOk, Bool.and_eq_true] at hs
      have hr := only_spec hs.1
      refine wpF.all hr (by simp) fun j hj => ?_
      simp only [List.mem_singleton] at hj; subst hj
      refine step m listed j _ (by rw [hr]; simp) hn hg hN hN0 hf hS ha hl fun s' N' a' w' hc hN' hf' hS' ha' hl' => ?_
      exact ih m _ hs.2 (by simpa using hn) hc (hN.trans hN') (hN0.trans hN') hf' hS' ha' hl' fun s2 N2 a2 w2 h1 h2 => hk s2 N2 a2 w2 h1 (hN'.trans h2)
  | two i j x y ihx ihy =>
    intro m listed s N a w hs hn hg hN hN0 hf hS ha hl hk
    cases m with
    | zero => simp [treeOk] at hs
    | succ m =>
      simp only [treeOk, Bool.and_eq_true] at hs
      obtain ⟨⟨h2, hx⟩, hy⟩ := hs
      have hr := only2_spec h2
      have hmi : i ∈ Region.ready .any all listed := by rcases hr with h | h <;> rw [h] <;> simp
      have hmj : j ∈ Region.ready .any all listed := by rcases hr with h | h <;> rw [h] <;> simp
      have si := step m listed i _ hmi hn hg.1 hN hN0 hf hS ha hl fun s' N' a' w' hc hN' hf' hS' ha' hl' => ihx m _ hx (by simpa using hn) hc (hN.trans hN') (hN0.trans hN') hf' hS' ha' hl' fun s2 N2 a2 w2 h1 h2 => hk s2 N2 a2 w2 h1 (hN'.trans h2)
      have sj := step m listed j _ hmj hn hg.2 hN hN0 hf hS ha hl fun s' N' a' w' hc hN' hf' hS' ha' hl' => ihy m _ hy (by simpa using hn) hc (hN.trans hN') (hN0.trans hN') hf' hS' ha' hl' fun s2 N2 a2 w2 h1 h2 => hk s2 N2 a2 w2 h1 (hN'.trans h2)
      rcases hr with h | h
      · exact wpF.all h (by simp) fun q hq => by
          simp only [List.mem_cons, List.not_mem_nil, or_false] at hq
          rcases hq with rfl | rfl
          · exact si
          · exact sj
      · exact wpF.all h (by simp) fun q hq => by
          simp only [List.mem_cons, List.not_mem_nil, or_false] at hq
          rcases hq with rfl | rfl
          · exact sj
          · exact si

/-- a region that draws its order, along such a tree; what is told of calls, values and effects is to be shown -/
theorem X.goTX {P : Program} {fn : Func} {R : Ending → World → Prop} {W : World} {O : Nat → Nat → Prop} {im : Nat → Nat → Option Value} {D : Nat → Nat → Prop} {Rr : World → Prop} {N0 : Nums} {B : SchT} {T : Tab} (td : List (Nat × SV)) (tx : List (Nat × Ef)) (hT : TabOk P T) (t : STree) (n : Nat) {id : Nat} {ops : Array Oper} {k : List It} {s : St}
    (hn : fn.ntmps = n) (hsel : Region.noSelect ops = true) (ht : treeOk ops t ops.size (Array.replicate ops.size false) = true)
    (h : ∀ (pr : Owe → Prop) (pe : PE) (fin : St → Prop), (∀ q : Owe, q.Ok (mkE P fn R W O im D Rr N0 B).toEnv N0 → pr q) → (∀ rg f op r rg', EffOk (mkE P fn R W O im D Rr N0 B).toEnv N0 rg f op r rg' → pe rg f op r rg') → (∀ s', X (mkE P fn R W O im D Rr N0 B) k s' → fin s') → anyX pe pr fin td tx T n ops (dryX td tx T n ops t s) s.rg t s) : X (mkE P fn R W O im D Rr N0 B) (.code (.region id ops true) :: k) s := by
  subst hn
  intro N a w hN hf hS
  show _ → Code.wp _ _ _ _ _
  intro _
  have hg := h (Owe.Ok (mkE P fn R W O im D Rr N0 B).toEnv N0) (EffOk (mkE P fn R W O im D Rr N0 B).toEnv N0) (fun s' => X (mkE P fn R W O im D Rr N0 B) k s') (fun _ h => h) (fun _ _ _ _ _ h => h) (fun _ h => h)
  have hS' : Sat (mkE P fn R W O im D Rr N0 B).toEnv N s.rg { w with drawn := w.drawn + 1 } := hS.drew
  have hwf := anyX_sound (E := (mkE P fn R W O im D Rr N0 B).toEnv) hT hsel (PanicOk.sem (fun _ _ d _ _ h => by cases d <;> exact h) k) _ hS'.vis t _ _ ht (by simp) hg (Nums.le.refl N) hN hf hS' (fun r g hg _ => hg) (Nat.le_refl _) (fun s' N' a' w' h1 h2 h3 h4 => h1 N' a' w' (hN.trans h2) h3 h4)
  exact wp_region_any hT.mixed hwf.any

/-! ### the run -/
def treeS : Sch → STree
  | [] => .nil
  | (i, some blk) :: r => .q i blk (treeS r)
  | (i, none) :: r => .one i (treeS r)
theorem treeS_ok {ops : Array Oper} : ∀ (sch : Sch) (L : Array Bool), schOk ops sch L = true → treeOk ops (treeS sch) sch.length L = true
  | [], L, h => by
    simp only [schOk] at h
    simp only [treeS, treeOk, List.length_nil]
    simp [h]
  | (i, some blk) :: r, L, h => by
    simp only [schOk, Bool.and_eq_true] at h
    simp only [treeS, treeOk, List.length_cons, Bool.and_eq_true]
    exact ⟨h.1, treeS_ok r _ h.2⟩
  | (i, none) :: r, L, h => by
    simp only [schOk, Bool.and_eq_true] at h
    simp only [treeS, treeOk, List.length_cons, Bool.and_eq_true]
    exact ⟨h.1, treeS_ok r _ h.2⟩

def runX (pe : PE) (pr : Owe → Prop) (fin : List It → St → Prop) (td : List (Nat × SV)) (tx : List (Nat × Ef)) (T : Tab) (B : SchT) (n : Nat) (rs : List ResultVar) : Nat → List It → St → Prop
  | 0, t, s => fin t s
  | m + 1, t, s =>
    match t with
    | .ops all (i :: rest) :: k => match effQ tx n all i s with
      | some (f, op, e) => pe s.rg s.fr op (e.r s.rg) (e.up s.rg) ∧ runX pe pr fin td tx T B n rs m (.ops all rest :: k) ⟨f, e.up s.rg⟩
      | none => match qP td T n all s.rg i s.fr with
        | some (f, o) => prL pr o (runX pe pr fin td tx T B n rs m (.ops all rest :: k) ⟨f, s.rg⟩)
        | none => match opE T n all i s with
          | some s' => runX pe pr fin td tx T B n rs m (.ops all rest :: k) s'
          | none => match pcall td n all i s.fr with
            | some (f, gk, g, l, v) => pr (.call s.rg gk g l v) ∧ runX pe pr fin td tx T B n rs m (.ops all rest :: k) ⟨f, s.rg⟩
            | none => fin t s
    | _ => match adv T n rs t s with
      | some (t', s') => runX pe pr fin td tx T B n rs m t' s'
      | none => match t with
        | .code c :: k => match c with
          | .region id ops d => match d with
            | true => match lookS B id with
              | some sch => anyX pe pr (fun s' => runX pe pr fin td tx T B n rs m k s') td tx T n ops (dryX td tx T n ops (treeS sch) s) s.rg (treeS sch) s
              | none => fin t s
            | false => fin t s
          | _ => fin t s
        | _ => fin t s

theorem runX_sound {td : List (Nat × SV)} {tx : List (Nat × Ef)} {T : Tab} {B : SchT} {n : Nat} {rs : List ResultVar} (E : Ctx) (e1 : E.n = n) (e2 : E.B = B) (e3 : TabOk E.P T) (e4 : PanicOk E.Q) : ∀ (m : Nat) (t : List It) (s : St),
    runX (EffOk E.toEnv E.N0) (Owe.Ok E.toEnv E.N0) (fun t s => X E t s) td tx T B n rs m t s → X E t s := by
  subst e1
  subst e2
  intro m
  induction m with
  | zero => intro t s h; exact h
  | succ m ih =>
    intro t s h
    simp only [runX] at h
    split at h
    · rename_i all i rest k
      have there : ∀ {α : Type} {y : α} {f : Oper → Option α}, (match nth all.toList i with | none => none | some o => f o) = some y → ∃ op, all[i]? = some op := fun {α y f} h => by
        split at h
        · cases h
        · rename_i op hop; rw [nth_eq] at hop; exact ⟨op, by simpa using hop⟩
      split at h
      · rename_i f op e hq
        obtain ⟨hob, h⟩ := h
        have hx := ih _ _ h
        intro N a w hN hf hS
        show wpOps _ _ _ _ _ _
        obtain ⟨o, ho⟩ := there hq
        obtain ⟨hw, h2⟩ := effQ_sound (E := E.toEnv) ho hq hob hN hf hS
        rw [wpOps_cons]
        unfold wpOp
        simp only [ho]
        rw [hw, if_pos rfl]
        exact .inl (h2 _ _ fun N' x w' hN' hf' hS' => hx N' _ w' (hN.trans hN') hf' hS')
      · split at h
        · rename_i f o hq
          obtain ⟨hob, h⟩ := prL_spec h
          have hx := ih _ _ h
          intro N a w hN hf hS
          show wpOps _ _ _ _ _ _
          obtain ⟨op, hop⟩ := there hq
          obtain ⟨v, hv, hfr⟩ := qP_sound e3 hop hq hob hN hf hS.vi
          rw [wpOps_cons]
          unfold wpOp
          simp only [hop]
          rcases hv with ⟨hw, hrun⟩ | ⟨hw, rfl⟩
          · rw [hw, if_pos rfl]
            exact .inl (wp_of_yields (.inl (hrun w hS.vi)) (hx N _ w hN hfr hS))
          · rw [hw]
            exact hx N _ w hN hfr hS
        · split at h
          · rename_i s1 he
            exact X.opEq e3 ⟨he⟩ (ih _ _ h)
          · split at h
            · rename_i f gk g l v hpc
              obtain ⟨hob, h⟩ := h
              have hx := ih _ _ h
              intro N a w hN hf hS
              show wpOps _ _ _ _ _ _
              obtain ⟨op, hop⟩ := there hpc
              rw [wpOps_cons]
              unfold wpOp
              simp only [hop]
              rcases pcall_sound hop hpc hob hN hf hS with ⟨hw, hy⟩ | ⟨hw, hf'⟩
              · rw [hw, if_pos rfl]
                exact .inl (hy _ _ fun x w' hf' hS' => hx N _ w' hN hf' hS')
              · rw [hw]
                exact hx N _ w hN hf' hS
            · exact h
    · split at h
      · rename_i t1 s1 ha
        exact adv_sound e3 ha (ih _ _ h)
      · split at h
        · rename_i c k _
          split at h
          · rename_i id ops d _
            split at h
            · split at h
              · rename_i sch hsch
                intro N a w hN hf hS
                show _ → Code.wp _ _ _ _ _
                intro hreg
                simp only [regsB, hsch] at hreg
                have hS' : Sat E.toEnv N s.rg { w with drawn := w.drawn + 1 } := hS.drew
                simp only [anyOk, Bool.and_eq_true] at hreg
                obtain ⟨⟨hn, hlen⟩, hsch'⟩ := hreg
                have hlen := Nat.eq_of_beq_eq_true hlen
                have := anyX_sound (E := E.toEnv) e3 hn (e4.sem _) _ hS'.vis (treeS sch) _ _ (treeS_ok sch _ hsch') (by simp) h (Nums.le.refl N) hN hf hS' (fun r g hg _ => hg) (Nat.le_refl _) (fun s' N' a' w' hx hN' hf' hS' => ih _ _ hx N' a' w' (hN.trans hN') hf' hS')
                rw [hlen] at this
                exact wp_region_any e3.mixed this.any
              · exact h
            · exact h
          · exact h
        · exact h

/-- go on; what is told of calls, values and effects is to be shown -/
theorem X.goX {P : Program} {fn : Func} {R : Ending → World → Prop} {W : World} {O : Nat → Nat → Prop} {im : Nat → Nat → Option Value} {D : Nat → Nat → Prop} {Rr : World → Prop} {N : Nums} {B : SchT} {T : Tab} (td : List (Nat × SV)) (tx : List (Nat × Ef)) (hT : TabOk P T) (m n : Nat) (hn : fn.ntmps = n) {t : List It} {s : St} {rs : Array ResultVar} (_hrs : fn.results = rs)
    (h : ∀ (pr : Owe → Prop) (pe : PE) (fin : List It → St → Prop), (∀ q, q.Ok (mkE P fn R W O im D Rr N B).toEnv N → pr q) → (∀ rg f op r rg', EffOk (mkE P fn R W O im D Rr N B).toEnv N rg f op r rg' → pe rg f op r rg') → (∀ t s, X (mkE P fn R W O im D Rr N B) t s → fin t s) → runX pe pr fin td tx T B n rs.toList m t s) : X (mkE P fn R W O im D Rr N B) t s := by
  subst hn
  exact runX_sound (mkE P fn R W O im D Rr N B) rfl rfl hT (fun _ _ d _ _ h => by cases d <;> exact h) m t s (h _ _ _ (fun _ h => h) (fun _ _ _ _ _ h => h) (fun _ _ h => h))

end Go.Eng

namespace Go.Eng
open Go

/-- told by the executor's equation -/
theorem EffOk.step {E : Env} {N0 : Nums} {T : Tab} (hT : TabOk E.P T) {rg rg' : List Rg} {f : Fr} {op : Op} {r : SV} (h : stepE T rg (ev f) op = some (r, rg')) : EffOk E N0 rg f op r rg' := by
  intro N a o w hN hop hf hS
  subst hop
  obtain ⟨N', x, w', h1, h2, h3, h4⟩ := stepE_sound hT hS hf h
  exact .inl ⟨x, w', h3, N', h1, h2, h4⟩

theorem stepE_append {T : Tab} {rg rg' : List Rg} {f : Fr} {x y : Operand} {ts tx e m : Nat} {ti te : TI} {sx sy r : SV} {new : List SV} (hx : ev f x = some sx) (hy : ev f y = some sy) (hti : lookT T ts = some ti) (hk : ti.kind = .slice e) (hte : lookT T e = some te)
    (hsrc : appSrc T rg te sy tx = some (new, m)) (happ : appV rg te sx new m = some (r, rg')) : stepE T rg (ev f) (.call { callee := .builtin .append, args := #[x, y], argTypes := #[ts, tx] }) = some (r, rg') := by
  simp only [stepE, hx, hy, hti, hk, hte, hsrc, happ]
/-- told of a call -/
theorem EffOk.call {E : Env} {N0 : Nums} {rg rg' : List Rg} {f : Fr} {g : Nat} {xs : Array Operand} {ts : Array TypeId} {l : List SV} {r : SV} (hl : evL f xs.toList = some l) (hc : ∀ args w, (callFunc g args).run E.P w = .ok (.enter g args) w)
    (h : ∀ (N : Nums) (w : World) (args : List Value), N0.le N → Sat E N rg w → SV.denL N l = some args → Calls E.P g args.toArray w fun e w' => ∃ v, e = .returned v ∧ ∃ N', N.le N' ∧ r.den N' = some v ∧ Sat E N' rg' w') :
    EffOk E N0 rg f (.call { callee := .value (.func g), args := xs, argTypes := ts }) r rg' := by
  intro N ρ o w hN hop hf hS
  have hargs : SV.denL N l = some (xs.toList.map ρ) := by
    have key : ∀ (ys : List Operand) {l : List SV}, evL f ys = some l → SV.denL N l = some (ys.map ρ) := fun ys => by
      induction ys with
      | nil => intro l h; simp only [evL, Option.some.injEq] at h; subst h; rfl
      | cons y ys ih =>
        intro l h
        simp only [evL] at h
        split at h
        · rename_i v q hv hq
          simp only [Option.some.injEq] at h; subst h
          simp [SV.denL, hf _ _ hv, ih hq]
        · cases h
    exact key _ hl
  refine .inr ⟨g, (xs.toList.map ρ).toArray, ?_, h N w _ hN hS hargs⟩
  have hfn := hf (.func g) _ rfl
  simp only [SV.den, one?, if_true, Option.some.injEq] at hfn
  simp only [execOp, hop, resolve, ← hfn, Deferred.ofValue, Sem.run_bind, Sem.run_pure, Result.andThen, invoke]
  rw [hc]
  congr 2
  apply Array.ext'
  simp

theorem EffOk.fresh {E : Env} {N0 : Nums} {rg : List Rg} {f : Fr} {g n sz : Nat} {xs : Array Operand} {ts : Array TypeId} {l : List SV} {cs : List SV} (hl : evL f xs.toList = some l) (hc : ∀ args w, (callFunc g args).run E.P w = .ok (.enter g args) w)
    (h : ∀ (N : Nums) (w : World) (args : List Value), N0.le N → Sat E N rg w → SV.denL N l = some args → Calls E.P g args.toArray w (FreshRet cs n sz w)) :
    EffOk E N0 rg f (.call { callee := .value (.func g), args := xs, argTypes := ts }) (.osl rg.length 0 n sz none) (rg ++ [⟨true, cs, none⟩]) :=
  EffOk.call hl hc fun N w args hN hS ha => (h N w args hN hS ha).mono fun e w' hf => by
    obtain ⟨p, v, h1, h2, _, h3⟩ := hf.sat hS
    exact ⟨v, h1, _, Nums.le_append _ _, h2, h3⟩

/-- behind what turned a region's cells, and nothing else that was there -/
theorem Sat.cells {E : Env} {N : Nums} {rg : List Rg} {w w' : World} {r : Nat} {g : Rg} {p : Num} (h : Sat E N rg w) (hg : rg[r]? = some g) (hp : N[r]? = some p) (ho : g.own = true)
    (hc : Chg (fun k o => k = p.b ∧ p.o ≤ o ∧ o < p.o + p.x) w w') (cs' : List SV) (hl : cs'.length ≤ p.x) (hcs : ∀ (j : Nat) (c : SV), cs'[j]? = some c → ∃ v, c.den N = some v ∧ w'.cell? ⟨p.b, p.o + j, none⟩ = some v) : Sat E N (rg.set r { g with cells := cs' }) w' := by
  have hrl : r < rg.length := (List.getElem?_eq_some_iff.1 hg).1
  have hnd : ∀ k o, (k = p.b ∧ p.o ≤ o ∧ o < p.o + p.x) → ¬ E.D k o := fun k o ⟨e1, e2, e3⟩ hd => by
    subst e1
    have := h.dd r g p hg hp ho (o - p.o) (by omega)
    rw [show p.o + (o - p.o) = o by omega] at this
    exact this hd
  have keepD : ∀ k o, E.D k o → (w'.cell? ⟨k, o, none⟩ = w.cell? ⟨k, o, none⟩ ∧ w'.frozen? ⟨k, o, none⟩ = w.frozen? ⟨k, o, none⟩) ∧ objAt w' k = objAt w k := fun k o hd => by
    have hlt := (h.dlt k o hd).lt
    obtain ⟨x, hx⟩ : ∃ x, w.heap[k]? = some x := ⟨_, Array.getElem?_eq_getElem hlt⟩
    cases x with
    | cells c e f =>
      obtain ⟨c', h1, h2, h3⟩ := hc.cells k c e f hx
      have h4 := h3 o (fun e => hnd k o e hd)
      refine ⟨⟨by simp [World.cell?, hx, h1, h4], by simp [World.frozen?, hx, h1]⟩, by simp [objAt, hx, h1]⟩
    | _ =>
      have hne : ∀ o', ¬ (k = p.b ∧ p.o ≤ o' ∧ o' < p.o + p.x) := fun o' ⟨e1, e2, e3⟩ => by
        have := (h.room r g p hg hp ho (o' - p.o) (by omega)).1
        rw [← e1] at this
        simp [World.cell?, hx] at this
      have e := hc.same k hlt hne
      exact ⟨⟨by unfold World.cell?; simp only [e], by unfold World.frozen?; simp only [e]⟩, objAt_same e⟩
  refine h.after (m' := E.im) (D' := E.D) (R' := E.R) hc (fun k o _ ⟨e1, e2, e3⟩ => .inl ⟨r, g, p, hg, hp, ho, e1, e2, e3⟩) ⟨fun _ _ _ h => h, fun k o v hv => ?_, fun _ _ _ h => .inl h⟩
    (fun k o hd => ⟨.inl hd, (h.dlt k o hd).of (fun hs => by rw [(keepD k o hd).1.1]; exact hs) (keepD k o hd).2⟩) h.loc (h.loc w w' keepD hc.size h.res) (by simp) (fun q x x' pq hq1 hq2 hpq => ?_)
  · refine cell_of_chg hc (fun ⟨e1, e2, e3⟩ => ?_) (h.imm k o v hv)
    have := h.imd r g p hg hp ho (o - p.o) (by omega)
    rw [show p.o + (o - p.o) = o by omega, ← e1, hv] at this
    cases this
  · rcases get_set hrl hq2 with ⟨rfl, rfl⟩ | ⟨hi, hq2⟩
    · rw [hg] at hq1; cases hq1
      rw [hp] at hpq; cases hpq
      exact ⟨rfl, rfl, fun e => (by rw [ho] at e; cases e), fun _ => hl, .inr hcs⟩
    · rw [hq1] at hq2; cases hq2
      refine ⟨rfl, rfl, fun _ => rfl, fun e => h.ext q x pq hq1 hpq e, .inl ⟨rfl, fun j hj ⟨e1, e2, e3⟩ => ?_⟩⟩
      have hw : j < x.wid pq := by
        unfold Rg.wid
        cases hxo : x.own with
        | true => have := h.ext q x pq hq1 hpq hxo; simp; omega
        | false => simpa using hj
      rcases h.disj r q g x p pq hg hp hq1 hpq ho (fun e => hi e.symm) j hw e1 with h1 | h1 <;> omega

/-- a row of one's own handed in comes back, turned, or a new one in its place -/
def TurnRet (b y K : Nat) (cs : List SV) (n sz : Nat) (w : World) (e : Ending) (w' : World) : Prop :=
  ∃ b' y' x' : Nat, e = .returned (.slice (some ⟨b', y', none⟩) n (x' / sz)) ∧ ((b' = b ∧ y' = y ∧ x' = K) ∨ w.heap.size ≤ b') ∧ cs.length ≤ x' ∧ 0 < x' ∧ (∀ (j : Nat) (c : SV), cs[j]? = some c → ∃ v, c.den [] = some v ∧ w'.cell? ⟨b', y' + j, none⟩ = some v) ∧
    (∀ j, j < x' → (w'.cell? ⟨b', y' + j, none⟩).isSome = true ∧ w'.frozen? ⟨b', y' + j, none⟩ = false) ∧ Chg (fun k o => k = b ∧ y ≤ o ∧ o < y + K) w w'

theorem TurnRet.sat {E : Env} {N : Nums} {rg : List Rg} {w w' : World} {r : Nat} {g : Rg} {p : Num} {cs : List SV} {n sz : Nat} {e : Ending} (h : Sat E N rg w) (hg : rg[r]? = some g) (hp : N[r]? = some p) (ho : g.own = true) (hob : g.ob = none) (hf : TurnRet p.b p.o p.x cs n sz w e w') :
    ∃ v N', e = .returned v ∧ N.le N' ∧ (SV.osl rg.length 0 n sz none).den N' = some v ∧ Sat E N' (rg.set r ⟨false, [], none⟩ ++ [⟨true, cs, none⟩]) w' := by
  obtain ⟨b', y', x', he, hcase, h1, h2, h3, h4, hc⟩ := hf
  have hrl : r < rg.length := (List.getElem?_eq_some_iff.1 hg).1
  have hget : ∀ q : Num, (N ++ [q])[rg.length]? = some q := fun q => by rw [← h.len]; simp
  rcases hcase with ⟨rfl, rfl, rfl⟩ | hnew
  · have hs := h.cells hg hp ho hc cs h1 (fun j c hj => by
      obtain ⟨v, k1, k2⟩ := h3 j c hj
      exact ⟨v, SV.den_mono (N := []) (N' := N) (fun r p h => by simp at h) c k1, k2⟩)
    have hs2 := hs.cut (c := 0) (n := cs.length) (g := { g with cells := cs }) (by rw [List.getElem?_set_self hrl]) hp ho (by simp)
    simp only [List.drop_zero, List.take_length, List.set_set, Nat.add_zero, Nat.sub_zero] at hs2
    exact ⟨_, _, he, Nums.le_append _ _, by simp only [SV.den, hget, Num.cap]; simp, hs2⟩
  · have hs := (h.cells hg hp ho hc [] (Nat.zero_le _) (fun j c hj => by simp at hj)).retire (r := r) (by simpa using hrl)
    rw [List.set_set] at hs
    refine ⟨_, _, he, Nums.le_append _ [⟨b', y', x'⟩], by simp only [SV.den, hget, Num.cap]; simp, ?_⟩
    refine hs.addFresh (s0 := w.heap.size) (fun r p hp => h.lt r p hp) hnew h.chg.size ?_ h1 (fun j c hj => ?_) h4 (fun i => ?_) (fun i hd => ?_)
    · obtain ⟨v, hv⟩ := Option.isSome_iff_exists.1 (h4 0 h2).1
      exact World.block_lt_of_cell? _ _ hv
    · obtain ⟨v, k1, k2⟩ := h3 j c hj
      exact ⟨v, SV.den_mono (N := []) (N' := N) (fun r p h => by simp at h) c k1, k2⟩
    · cases hi : E.im b' i with
      | none => rfl
      | some v => have := World.block_lt_of_cell? _ _ (h.imm _ _ _ hi); simp at this; omega
    · have := (h.dlt _ _ hd).lt
      omega

theorem EffOk.turn {E : Env} {N0 : Nums} {rg : List Rg} {f : Fr} {g n sz r : Nat} {xs : Array Operand} {ts : Array TypeId} {l : List SV} {cs : List SV} {gg : Rg} (hl : evL f xs.toList = some l) (hc : ∀ args w, (callFunc g args).run E.P w = .ok (.enter g args) w) (hg : rg[r]? = some gg) (ho : gg.own = true) (hob : gg.ob = none)
    (h : ∀ (N : Nums) (w : World) (args : List Value) (p : Num), N0.le N → Sat E N rg w → SV.denL N l = some args → N[r]? = some p → Calls E.P g args.toArray w (TurnRet p.b p.o p.x cs n sz w)) :
    EffOk E N0 rg f (.call { callee := .value (.func g), args := xs, argTypes := ts }) (.osl rg.length 0 n sz none) (rg.set r ⟨false, [], none⟩ ++ [⟨true, cs, none⟩]) :=
  EffOk.call hl hc fun N w args hN hS ha => by
    obtain ⟨p, hp⟩ : ∃ p, N[r]? = some p := ⟨_, List.getElem?_eq_getElem (by have := (List.getElem?_eq_some_iff.1 hg).1; rw [hS.len]; exact this)⟩
    refine (h N w args p hN hS ha hp).mono fun e w' hf => ?_
    obtain ⟨v, N', h1, h2, h3, h4⟩ := hf.sat hS hg hp ho hob
    exact ⟨v, h1, N', h2, h3, h4⟩

/-- what is told leaves all as it is, and yields a value: an operation of the library that is no call -/
theorem EffOk.val {E : Env} {N0 : Nums} {rg : List Rg} {f : Fr} {op : Op} {r : SV} (h : ∀ (N : Nums) (ρ : Operand → Value) (o : Oper) (w : World), N0.le N → o.op = op → (∀ x s, ev f x = some s → s.den N = some (ρ x)) → Sat E N rg w → ∃ v, r.den N = some v ∧ (execOp ρ o).run E.P w = .ok (.value v) w) : EffOk E N0 rg f op r rg :=
  fun N ρ o w hN hop hf hS => by
    obtain ⟨v, h1, h2⟩ := h N ρ o w hN hop hf hS
    exact .inl ⟨v, w, .inl h2, N, Nums.le.refl N, h1, hS⟩

end Go.Eng

namespace Go.Eng
open Go

/-- a bound of a slice, told -/
def Bnd (f : Fr) (g : GK) (o : Option Operand) (z : Option Nat) : Prop := match o, z with
  | none, none => True
  | some p, some n => ∃ kd s, evK f g p = some (.int kd s) ∧ (g.T → s.den = (n : Int))
  | _, _ => False

theorem Bnd.run {N : Nums} {f : Fr} {g : GK} {o : Option Operand} {z : Option Nat} {ρ : Operand → Value} (h : Bnd f g o z) (ht : g.T) (hρ : ∀ x s, evK f g x = some s → s.den N = some (ρ x)) : (o = none ∧ z = none) ∨ ∃ k n, o.map ρ = some (.int k (n : Nat)) ∧ z = some n := by
  cases o with
  | none => cases z with
    | none => exact .inl ⟨rfl, rfl⟩
    | some n => exact h.elim
  | some p => cases z with
    | none => exact h.elim
    | some n =>
      obtain ⟨kd, s, h1, h2⟩ := h
      have := hρ _ _ h1
      simp only [SV.den, h2 ht, Option.some.injEq] at this
      exact .inr ⟨kd, n, by simp [← this], rfl⟩

/-- part of a slice of a region, its capacity known -/
theorem vk_slice {E : Env} {N0 : Nums} {rg : List Rg} {f : Fr} {g : GK} {t e : TypeId} {x : Operand} {lo hi mx : Option Operand} {zl zh zm : Option Nat} {r c n z cp c' n' k' : Nat} (hx : evK f g x = some (.osl r c n z (some cp))) (hl : Bnd f g lo zl) (hh : Bnd f g hi zh) (hm : Bnd f g mx zm) (hr : r < rg.length) (hu : E.P.underlying t = some (.slice e)) (hq : ∀ w, (sizeOf e).run E.P w = .ok z w)
    (h1 : zl.getD 0 ≤ zh.getD n) (h2 : zh.getD n ≤ zm.getD cp) (h3 : zm.getD cp ≤ cp) (h4 : (zh.isSome || !zm.isSome) = true) (hc : c' = if zm.getD cp = zl.getD 0 then c else c + zl.getD 0 * z) (hn : n' = zh.getD n - zl.getD 0) (hk : k' = zm.getD cp - zl.getD 0) :
    ValOk E N0 rg f g (.slice t x lo hi mx) (.osl r c' n' z (some k')) := by
  intro ht N ρ o w hN0 hop hρ hV
  have e1 := hρ _ _ hx
  obtain ⟨p, hp⟩ : ∃ p, N[r]? = some p := ⟨_, List.getElem?_eq_getElem (by have := hV.1.len; omega)⟩
  simp only [SV.den, hp, Num.cap, Option.some.injEq] at e1
  refine ⟨.slice (some ⟨p.b, p.o + c', none⟩) n' k', by simp only [SV.den, hp, Num.cap], fun w' _ => ?_⟩
  have hb := run_sliceBounds (P := E.P) (w := w') (ρ' := ρ) (b := true) (len := n) (cap := cp) (hl.run ht hρ) (hh.run ht hρ) (hm.run ht hρ) h1 h2 h3 h4
  simp only [execOp, hop, ← e1, Instr.sliceAt, run_underlying hu, Sem.run_bind, Result.andThen, Instr.slice, hb, hq, Sem.run_pure, Option.map_some, addr_add, hn, hk, hc]
  by_cases h : zm.getD cp = zl.getD 0
  · simp [h]
  · simp [h, Nat.add_assoc]

/-- .. not known -/
theorem vk_sliceN {E : Env} {N0 : Nums} {rg : List Rg} {f : Fr} {g : GK} {t e : TypeId} {x : Operand} {lo hi : Option Operand} {zl zh : Option Nat} {r c n z c' n' : Nat} {gg : Rg} (hx : evK f g x = some (.osl r c n z none)) (hl : Bnd f g lo zl) (hh : Bnd f g hi zh) (hr : rg[r]? = some gg) (ho : gg.own = true) (hz : 0 < z) (hu : E.P.underlying t = some (.slice e)) (hq : ∀ w, (sizeOf e).run E.P w = .ok z w)
    (h1 : zl.getD 0 ≤ zh.getD n) (h2 : c + zh.getD n * z ≤ gg.cells.length) (h3 : zl.getD 0 = 0 ∨ c + (zl.getD 0 + 1) * z ≤ gg.cells.length) (hc : c' = c + zl.getD 0 * z) (hn : n' = zh.getD n - zl.getD 0) :
    ValOk E N0 rg f g (.slice t x lo hi none) (.osl r c' n' z none) := by
  intro ht N ρ o w hN0 hop hρ hV
  have e1 := hρ _ _ hx
  obtain ⟨p, hp⟩ : ∃ p, N[r]? = some p := ⟨_, List.getElem?_eq_getElem (by have := hV.1.len; have := (List.getElem?_eq_some_iff.1 hr).1; omega)⟩
  have hext := hV.1.ext r gg p hr hp ho
  simp only [SV.den, hp, Num.cap, Option.some.injEq] at e1
  have hcap : zh.getD n ≤ (p.x - c) / z := (Nat.le_div_iff_mul_le hz).2 (by omega)
  have hsub : (p.x - c) / z - zl.getD 0 = (p.x - (c + zl.getD 0 * z)) / z := by
    rw [← Nat.sub_sub, Nat.mul_comm (zl.getD 0) z, Nat.sub_mul_div]
  refine ⟨.slice (some ⟨p.b, p.o + c', none⟩) n' ((p.x - c') / z), by simp only [SV.den, hp, Num.cap], fun w' _ => ?_⟩
  have hb := run_sliceBounds (P := E.P) (w := w') (ρ' := ρ) (b := true) (len := n) (cap := (p.x - c) / z) (mx := none) (m := none) (hl.run ht hρ) (hh.run ht hρ) (.inl ⟨rfl, rfl⟩) h1 (by simpa using hcap) (by simp) (by simp)
  simp only [Option.map_none, Option.getD_none] at hb
  have hmap : (none : Option Operand).map ρ = none := rfl
  simp only [execOp, hop, ← e1, Instr.sliceAt, run_underlying hu, Sem.run_bind, Result.andThen, Instr.slice, hmap, hb, hq, Sem.run_pure, Option.map_some, addr_add, hn, hc, hsub]
  by_cases h : (p.x - c) / z = zl.getD 0
  · have h0 : zl.getD 0 = 0 := by
      rcases h3 with h3 | h3
      · exact h3
      · have : zl.getD 0 + 1 ≤ (p.x - c) / z := (Nat.le_div_iff_mul_le hz).2 (by omega)
        omega
    simp [h0]
  · simp [h, Nat.add_assoc]

theorem vk_cap {E : Env} {N0 : Nums} {rg : List Rg} {f : Fr} {g : GK} {x : Operand} {ts e r c n z k : Nat} (hx : evK f g x = some (.osl r c n z (some k))) (hr : r < rg.length) (hu : E.P.underlying ts = some (.slice e)) : ValOk E N0 rg f g (.call { callee := .builtin .cap, args := #[x], argTypes := #[ts] }) (.int .i64 (.nat k)) := by
  intro ht N ρ op w hN0 hop hρ hV
  have h1 := hρ _ _ hx
  obtain ⟨p, hp⟩ : ∃ p, N[r]? = some p := ⟨_, List.getElem?_eq_getElem (by have := hV.1.len; omega)⟩
  simp only [SV.den, hp, Num.cap, Option.some.injEq] at h1
  refine ⟨.int .i64 k, rfl, fun w' _ => ?_⟩
  have h2 : ∀ a, (Builtin.cap_ #[ts] op.type #[.slice (some a) n k]).run E.P w' = .ok (.int .i64 k) w' := fun a => by simp [Builtin.cap_, run_underlying hu, Result.andThen, goInt]
  simp [execOp, hop, resolve, invoke, builtin, ← h1, h2]

theorem srcV_part {rg : List Rg} {r c n z : Nat} {g : Rg} {k : Option Nat} (hr : nth rg r = some g) (hcs : c + n * z ≤ g.cells.length) : srcV rg z (.osl r c n z k) = some ((g.cells.drop c).take (n * z), n) := by
  have e2 : Nat.ble (c + n * z) g.cells.length = true := Nat.ble_eq_true_of_le hcs
  simp only [srcV, hr, e2, Nat.beq_refl, Bool.and_self, cond_true]

/-- 'copy' onto a row of one's own, as far as it reaches -/
theorem EffOk.copyX {E : Env} {N0 : Nums} {T : Tab} (hT : TabOk E.P T) {rg : List Rg} {f : Fr} {x y : Operand} {td tx e r c n r2 c2 m q : Nat} {ti te : TI} {k k2 : Option Nat} {g g2 : Rg} {cs' : List SV} (hx : ev f x = some (.osl r c n te.size k)) (hy : ev f y = some (.osl r2 c2 m te.size k2)) (hti : lookT T td = some ti) (hk : ti.kind = .slice e) (hte : lookT T e = some te)
    (hg : rg[r]? = some g) (ho : g.own = true) (hg2 : rg[r2]? = some g2) (hq : q = min m n) (hc2 : c2 + q * te.size ≤ g2.cells.length) (hc : c ≤ g.cells.length) (h1 : ((g2.cells.drop c2).take (q * te.size)).all SV.one = true) (hp : ∀ (N : Nums) (p : Num), N0.le N → N[r]? = some p → g.cells.length ≤ p.x → c + q * te.size ≤ p.x)
    (hcs : cs' = setRow g.cells c ((g2.cells.drop c2).take (q * te.size))) :
    EffOk E N0 rg f (.call { callee := .builtin .copy, args := #[x, y], argTypes := #[td, tx] }) (.int .i64 (.lit (q : Nat))) (rg.set r { g with cells := cs' }) := by
  intro N ρ o w hN hop hf h
  have ok := (hT.ok td ti hti).kind
  rw [hk] at ok
  have ok' : E.P.underlying td = some (.slice e) := ok
  have oke := hT.ok e te hte
  have hd := hf _ _ hx
  have hyd := hf _ _ hy
  obtain ⟨p2, hp2⟩ : ∃ p, N[r2]? = some p := ⟨_, List.getElem?_eq_getElem (by rw [h.len]; exact (List.getElem?_eq_some_iff.1 hg2).1)⟩
  have hden2 : (SV.osl r2 c2 q te.size k2).den N = some (.slice (some ⟨p2.b, p2.o + c2, none⟩) q (p2.cap c2 te.size k2)) := by simp only [SV.den, hp2]
  obtain ⟨q1, vs, q2, q3, q4⟩ := srcV_sound (P := E.P) h.vis hden2 (srcV_part (rg := rg) (by rw [nth_eq]; exact hg2) hc2)
  obtain ⟨p, hpn⟩ : ∃ p, N[r]? = some p := ⟨_, List.getElem?_eq_getElem (by rw [h.len]; exact (List.getElem?_eq_some_iff.1 hg).1)⟩
  have hext := h.ext r g p hg hpn ho
  have hpx := hp N p hN hpn hext
  simp only [SV.den, hpn, hp2, Option.some.injEq] at hd hyd
  obtain ⟨w', hst, hsat⟩ := Sat.store hpn c _ vs 0 h hg ho (by omega) (by rw [q3]; omega) q2 (one_cells h1 q2)
  have hq4 := q4 w rfl q (Nat.le_refl _)
  rw [List.take_of_length_le (by rw [← q3]; exact Nat.le_of_eq (SV.denL_get _ q2).1)] at hq4
  have hq4' : (Builtin.firstCells te.size q (.slice (some ⟨p2.b, p2.o + c2, none⟩) m (p2.cap c2 te.size k2))).run E.P w = .ok vs.toArray w := hq4
  have hmin : Nat.min m n = q := hq.symm
  have hrun : (Builtin.copy_ #[td, tx] o.type #[ρ x, ρ y]).run E.P w = .ok (.int .i64 (q : Nat)) w' := by
    rw [← hd, ← hyd]
    simp only [Builtin.copy_, List.getElem?_toArray, List.getElem?_cons_zero, List.getElem?_cons_succ, Sem.run_bind, run_underlying ok', Result.andThen, Builtin.lenOf, Sem.run_pure, hmin, oke.size, hq4', hst, goInt]
  subst hcs
  refine .inl ⟨_, w', .inl ?_, N, Nums.le.refl N, by simp only [SV.den, SI.den]; rfl, by simpa using hsat⟩
  simp [execOp, hop, resolve, invoke, builtin, hrun]

/-- 'append' in place, behind what is known -/
theorem EffOk.appIn {E : Env} {N0 : Nums} {T : Tab} (hT : TabOk E.P T) {rg : List Rg} {f : Fr} {x y : Operand} {ts tx e r c n m kk : Nat} {ti te : TI} {sy : SV} {g : Rg} {new cs' : List SV} {nn : Nat} (hx : ev f x = some (.osl r c n te.size (some kk))) (hy : ev f y = some sy) (hti : lookT T ts = some ti) (hk : ti.kind = .slice e) (hte : lookT T e = some te)
    (hsrc : appSrc T rg te sy tx = some (new, m)) (hg : rg[r]? = some g) (ho : g.own = true) (hc : c + n * te.size ≤ g.cells.length) (hok : appV.appOk te new n m = true) (hfit : n + m ≤ kk) (hnn : nn = n + m) (hcs : cs' = setRow g.cells (c + n * te.size) new) (hp : ∀ (N : Nums) (p : Num), N0.le N → N[r]? = some p → g.cells.length ≤ p.x → c + (n + m) * te.size ≤ p.x) :
    EffOk E N0 rg f (.call { callee := .builtin .append, args := #[x, y], argTypes := #[ts, tx] }) (.osl r c nn te.size (some kk)) (rg.set r { g with cells := cs' }) := by
  subst hnn hcs
  intro N ρ o w hN hop hf h
  have ok := (hT.ok ts ti hti).kind
  rw [hk] at ok
  have ok' : E.P.underlying ts = some (.slice e) := ok
  have oke := hT.ok e te hte
  obtain ⟨z, hz, hzd⟩ := oke.zero
  obtain ⟨i, hi, hib⟩ := oke.info
  have hzd' : SV.denL N te.zero = some z.cells.toList := SV.denL_mono (N := []) (N' := N) (fun r p h => by simp at h) _ hzd
  unfold appV.appOk at hok
  simp only [Bool.and_eq_true] at hok
  obtain ⟨⟨⟨⟨⟨b1, b2⟩, b3⟩, b4⟩, b5⟩, b6⟩ := hok
  have b1 : 0 < te.size := by simpa using b1
  have b2 := Nat.eq_of_beq_eq_true b2
  have b3 := Nat.eq_of_beq_eq_true b3
  have b5 := Nat.le_of_ble_eq_true b5
  have b6 := Nat.le_of_ble_eq_true b6
  have z2 : z.cells.size = te.size := by
    have := (SV.denL_get _ hzd').1
    simp at this; omega
  have hd := hf _ _ hx
  have hyd := hf _ _ hy
  obtain ⟨ws, hw1, hw2, hw3, hw4⟩ := appSrc_sound (P := E.P) hT.ok h.vis hzd' b2 hyd (by omega) hsrc
  rw [← hib, ← z2] at hw3
  obtain ⟨p, hpn⟩ : ∃ p, N[r]? = some p := ⟨_, List.getElem?_eq_getElem (by rw [h.len]; exact (List.getElem?_eq_some_iff.1 hg).1)⟩
  have hext := h.ext r g p hg hpn ho
  have hpx := hp N p hN hpn hext
  rw [Nat.add_mul] at hpx
  simp only [SV.den, hpn, Num.cap, Option.some.injEq] at hd
  obtain ⟨w', hst, hsat⟩ := Sat.store hpn (c + n * te.size) new ws 0 h hg ho (by omega) (by omega) hw1 (one_cells b4 hw1)
  have hrun := run_append (P := E.P) (w := w) (ta := #[ts, tx]) (ty := o.type) (zero := z) (s := .slice (some ⟨p.b, p.o + c, none⟩) n kk) (x := ρ y) (n := n) (cap := kk) (m := m) (old := []) (vs := ws) (wf := w') rfl rfl ok' hi (fun w => by rw [z2]; exact oke.size w) hz (by omega) rfl hw3 (by rw [hib]; exact b5) b6
    (fun w' e1 e2 => by rw [z2]; exact hw4 w' e1 e2) (fun hlt => absurd hfit (by omega)) (fun _ => by simp only [addr_add, z2, Nat.add_assoc]; exact hst)
  have hr := hrun.1 hfit
  rw [hd] at hr
  refine .inl ⟨.slice (some ⟨p.b, p.o + c, none⟩) (n + m) kk, w', .inl ?_, N, Nums.le.refl N, by simp only [SV.den, hpn, Num.cap], by simpa using hsat⟩
  simp [execOp, hop, resolve, invoke, builtin, hr]

/-- 'append' where there is no room -/
theorem appV_full {rg : List Rg} {te : TI} {r c n m kk : Nat} {g : Rg} {new : List SV} (hr : nth rg r = some g) (hcs : c + n * te.size ≤ g.cells.length) (hlt : kk < n + m) (hok : appV.appOk te new n m = true) :
    appV rg te (.osl r c n te.size (some kk)) new m = some (.osl rg.length 0 (n + m) te.size none, rg ++ [⟨true, (g.cells.drop c).take (n * te.size) ++ new, none⟩]) := by
  have e2 : Nat.ble (c + n * te.size) g.cells.length = true := Nat.ble_eq_true_of_le hcs
  have e3 : Nat.ble (n + m) kk = false := by
    cases h : Nat.ble (n + m) kk with
    | false => rfl
    | true => have := Nat.le_of_ble_eq_true h; omega
  simp only [appV, hr, hok, e2, e3, Nat.beq_refl, Bool.and_self, cond_true, cond_false]

/-- zeros, so many -/
theorem appSrc_zeros {T : Tab} {rg : List Rg} {te ti : TI} {tx m : Nat} {kd ki : IntKind} (ht : lookT T tx = some ti) (hk : ti.kind = .int ki) : appSrc T rg te (.int kd (.lit (m : Nat))) tx = some (rep m te.zero, m) := by
  have h0 : decide ((0 : Int) ≤ (m : Nat)) = true := decide_eq_true (by omega)
  simp only [appSrc, ht, hk, h0, cond_true, Int.toNat_natCast]

/-- 'append' where there is no room: a new row -/
theorem EffOk.appFull {E : Env} {N0 : Nums} {T : Tab} (hT : TabOk E.P T) {rg : List Rg} {f : Fr} {x y : Operand} {ts tx e r c n m kk nn : Nat} {ti te : TI} {sy : SV} {g : Rg} {new cs' : List SV} (hx : ev f x = some (.osl r c n te.size (some kk))) (hy : ev f y = some sy) (hti : lookT T ts = some ti) (hk : ti.kind = .slice e) (hte : lookT T e = some te)
    (hsrc : appSrc T rg te sy tx = some (new, m)) (hg : nth rg r = some g) (hc : c + n * te.size ≤ g.cells.length) (hok : appV.appOk te new n m = true) (hlt : kk < n + m) (hnn : nn = n + m) (hcs : cs' = (g.cells.drop c).take (n * te.size) ++ new) :
    EffOk E N0 rg f (.call { callee := .builtin .append, args := #[x, y], argTypes := #[ts, tx] }) (.osl rg.length 0 nn te.size none) (rg ++ [⟨true, cs', none⟩]) := by
  subst hnn hcs
  exact EffOk.step hT (stepE_append hx hy hti hk hte hsrc (appV_full hg hc hlt hok))

/-- an operation on two numbers, told -/
theorem vk_bin {E : Env} {N0 : Nums} {rg : List Rg} {f : Fr} {g : GK} {op : BinOp} {t ty : TypeId} {x y : Operand} {kd : IntKind} {s1 s2 : SI} {r r0 : SV} (hx : evK f g x = some (.int kd s1)) (hy : evK f g y = some (.int kd s2)) (h : intOp op kd (.v s1.den) (.v s2.den) = some r0) (hd : g.T → ∀ N v, r0.den N = some v → r.den N = some v) : ValOk E N0 rg f g (.binOp op t x y ty) r := by
  intro ht N ρ o w hN0 hop hρ hV
  have h1 := hρ _ _ hx
  have h2 := hρ _ _ hy
  simp only [SV.den, Option.some.injEq] at h1 h2
  obtain ⟨v, hv, _⟩ := intOp_sound (P := E.P) (w := w) (N := N) h t
  refine ⟨v, hd ht N v hv, fun w' _ => ?_⟩
  obtain ⟨v', hv', hrun⟩ := intOp_sound (P := E.P) (w := w') (N := N) h t
  rw [hv] at hv'; cases hv'
  simp only [SI.den] at hrun
  have h3 : (do eqGuard op t x y (ρ x) (ρ y); binOp op t (ρ x) (ρ y) : Sem Value).run E.P w' = .ok v w' := by
    rw [← h1, ← h2]
    simp only [Sem.run_bind]
    rw [eqGuard_none _ _ _ _ (by simp) (by simp)]
    simp [Result.andThen, hrun]
  simp only [execOp, hop]
  rw [Sem.run_bind, h3]
  rfl

theorem vk_addN {E : Env} {N0 : Nums} {rg : List Rg} {f : Fr} {g : GK} {t ty : TypeId} {x y : Operand} {s1 s2 : SI} {m1 m2 m : Nat} {r : SI} (hx : evK f g x = some (.int .i64 s1)) (hy : evK f g y = some (.int .i64 s2)) (h1 : g.T → s1.den = (m1 : Int)) (h2 : g.T → s2.den = (m2 : Int)) (hm : m = m1 + m2) (hb : m < 9223372036854775808) (hr : r.den = (m : Int)) : ValOk E N0 rg f g (.binOp .add t x y ty) (.int .i64 r) :=
  vk_bin hx hy rfl fun ht N v hv => by
    simp only [SV.den, SI.den, addI, h1 ht, h2 ht] at hv ⊢
    rw [← hv, hr, wrapN ((m1 : Int) + m2) (by omega) (by omega), hm]
    rfl
theorem vk_subN {E : Env} {N0 : Nums} {rg : List Rg} {f : Fr} {g : GK} {t ty : TypeId} {x y : Operand} {s1 s2 : SI} {m1 m2 m : Nat} {r : SI} (hx : evK f g x = some (.int .i64 s1)) (hy : evK f g y = some (.int .i64 s2)) (h1 : g.T → s1.den = (m1 : Int)) (h2 : g.T → s2.den = (m2 : Int)) (hm : m + m2 = m1) (hb : m1 < 9223372036854775808) (hr : r.den = (m : Int)) : ValOk E N0 rg f g (.binOp .sub t x y ty) (.int .i64 r) :=
  vk_bin hx hy rfl fun ht N v hv => by
    simp only [SV.den, SI.den, subI, h1 ht, h2 ht] at hv ⊢
    rw [← hv, hr, wrapN ((m1 : Int) - m2) (by omega) (by omega), show (m1 : Int) - m2 = m by omega]

theorem putAt_eq {α : Type} : ∀ (l : List α) (c : Nat) (s : α), c ≤ l.length → putAt l c s = l.take c ++ s :: l.drop (c + 1)
  | [], c, s, h => by
    obtain rfl : c = 0 := by simpa using h
    rfl
  | a :: l, 0, s, _ => rfl
  | a :: l, c + 1, s, h => by simp [putAt, putAt_eq l c s (by simpa using h)]
theorem setRow_eq : ∀ (r l : List SV) (c : Nat), c ≤ l.length → setRow l c r = l.take c ++ r ++ l.drop (c + r.length)
  | [], l, c, _ => by simp [setRow]
  | s :: r, l, c, h => by
    have h2 : (l.take c ++ [s]).length = c + 1 := by simp; omega
    have e : putAt l c s = (l.take c ++ [s]) ++ l.drop (c + 1) := by rw [putAt_eq l c s h]; simp
    rw [setRow, setRow_eq r _ (c + 1) (by rw [e, List.length_append, h2]; omega), e, List.take_append_of_le_length (by omega), List.take_of_length_le (by omega), List.drop_append, h2, List.drop_of_length_le (by omega), List.nil_append, List.drop_drop]
    simp only [List.length_cons, List.append_assoc, List.cons_append, List.nil_append]
    congr 4
    omega
theorem rep_len (z : List SV) : ∀ n, (rep n z).length = n * z.length
  | 0 => by simp [rep]
  | n + 1 => by simp [rep, rep_len z n, Nat.add_mul]; omega

end Go.Eng

namespace Go.Proofs.Ythaffebapmkppaa
open Go Go.Eng Go.Sort

def insL (l : List Int) (at' : Nat) (x : Int) : List Int := l.take at' ++ x :: l.drop at'

theorem bytL_ins (l : List Int) (a : Nat) (x : Int) : bytL (insL l a x) = (bytL l).take a ++ .int .u8 (.v x) :: (bytL l).drop a := by
  unfold bytL insL
  simp [List.map_take, List.map_drop]

theorem ins_new (cs Z : List SV) (a : Nat) (X : SV) (h : a < cs.length) (hZ : Z.length = cs.length + 1 - a) : (setRow (cs.take a ++ Z) a [X]).length = cs.length + 1 ∧ setRow (setRow (cs.take a ++ Z) a [X]) (a + 1) (cs.drop a) = cs.take a ++ X :: cs.drop a := by
  have ht : (cs.take a).length = a := by rw [List.length_take]; omega
  have e : setRow (cs.take a ++ Z) a [X] = (cs.take a ++ [X]) ++ Z.drop 1 := by
    have e1 : (cs.take a ++ Z).take a = cs.take a := by rw [List.take_append_of_le_length (by omega), List.take_of_length_le (by omega)]
    have e2 : (cs.take a ++ Z).drop (a + 1) = Z.drop 1 := by
      have := List.drop_append (l₁ := cs.take a) (l₂ := Z) (i := a + 1)
      rw [this, ht, Nat.add_sub_cancel_left]
      have : (cs.take a).drop (a + 1) = [] := List.drop_of_length_le (by omega)
      rw [this, List.nil_append]
    rw [setRow_eq _ _ _ (by rw [List.length_append]; omega), e1]
    exact congrArg (cs.take a ++ [X] ++ ·) e2
  have hl : (setRow (cs.take a ++ Z) a [X]).length = cs.length + 1 := by
    rw [e]; simp only [List.length_append, ht, List.length_drop, List.length_cons, List.length_nil, hZ]; omega
  refine ⟨hl, ?_⟩
  have h1 : (cs.take a ++ [X]).length = a + 1 := by simp only [List.length_append, ht, List.length_cons, List.length_nil]
  have e3 : (setRow (cs.take a ++ Z) a [X]).drop (a + 1 + (cs.drop a).length) = [] := List.drop_of_length_le (by rw [hl, List.length_drop]; omega)
  have e4 : (setRow (cs.take a ++ Z) a [X]).take (a + 1) = cs.take a ++ [X] := by rw [e, List.take_append_of_le_length (by omega), List.take_of_length_le (by omega)]
  rw [setRow_eq _ _ _ (by omega), e3, e4]
  simp
theorem ins_in (cs : List SV) (a : Nat) (X : SV) (h : a < cs.length) : (setRow cs (a + 1) (cs.drop a)).length = cs.length + 1 ∧ setRow (setRow cs (a + 1) (cs.drop a)) a [X] = cs.take a ++ X :: cs.drop a := by
  have ht : (cs.take (a + 1)).length = a + 1 := by rw [List.length_take]; omega
  have e : setRow cs (a + 1) (cs.drop a) = cs.take (a + 1) ++ cs.drop a := by
    have e0 : cs.drop (a + 1 + (cs.drop a).length) = [] := List.drop_of_length_le (by rw [List.length_drop]; omega)
    rw [setRow_eq _ _ _ (by omega), e0, List.append_nil]
  have hl : (setRow cs (a + 1) (cs.drop a)).length = cs.length + 1 := by
    rw [e, List.length_append, ht, List.length_drop]; omega
  refine ⟨hl, ?_⟩
  have e2 : (cs.take (a + 1) ++ cs.drop a).drop (a + 1) = cs.drop a := by
    have := List.drop_append (l₁ := cs.take (a + 1)) (l₂ := cs.drop a) (i := a + 1)
    rw [this, ht, Nat.sub_self]
    have : (cs.take (a + 1)).drop (a + 1) = [] := List.drop_of_length_le (by omega)
    rw [this, List.nil_append, List.drop_zero]
  rw [setRow_eq _ _ _ (by omega), e, List.take_append_of_le_length (by omega), List.take_take, show min a (a + 1) = a by omega, show a + [X].length = a + 1 from rfl, e2]
  simp

section
variable {P : Program} {fn : Func} {Q : Ending → World → Prop} {w w' : World} {im : Mem} {D : Nat → Nat → Prop} {Rr : World → Prop} {B : SchT} {N : Nums} {rg rg0 : List Rg} {p1 : Num} {g0 g1 : Rg} {b y K n r : Nat} {cs cs' : List SV} {v : Value}

theorem inR_two {k o : Nat} (hro : g1.own = false) (h : InR [⟨b, y, K⟩, p1] [g0, g1] k o) : k = b ∧ y ≤ o ∧ o < y + K := by
  rcases inR_cons h with ⟨_, h1, h2, h3⟩ | h
  · exact ⟨h1, h2, h3⟩
  · rcases inR_cons h with ⟨h1, _⟩ | h
    · rw [hro] at h1; cases h1
    · exact absurd h inR_nil

/-- handed back in its place -/
theorem turn_in (hro : g1.own = false) (hN : Nums.le [⟨b, y, K⟩, p1] N) (hS : Sat (mkE P fn Q w (InR [⟨b, y, K⟩, p1] [g0, g1]) im D Rr [⟨b, y, K⟩, p1] B).toEnv N rg w') (hr : rg[0]? = some ⟨true, cs, none⟩) (h0 : 0 < K)
    (hc : ∀ c ∈ cs, ∀ (N N' : Nums) (v : Value), c.den N = some v → c.den N' = some v) (hv : (resV [.osl 0 0 n 1 (some K)]).den N = some v) : TurnRet b y K cs n 1 w (.returned v) w' := by
  have hp : N[0]? = some ⟨b, y, K⟩ := hN 0 _ rfl
  simp only [resV, SV.den, hp, Num.cap, Nat.add_zero, Option.some.injEq] at hv
  refine ⟨b, y, K, by rw [← hv, Nat.div_one], .inl ⟨rfl, rfl, rfl⟩, hS.ext 0 _ _ hr hp rfl, h0, fun j c hj => ?_, hS.room 0 _ _ hr hp rfl, hS.chg.mono fun k o _ h => inR_two hro h⟩
  obtain ⟨u, h1, h2⟩ := hS.cell 0 _ _ hr hp j c hj
  exact ⟨u, hc c (List.mem_of_getElem? hj) N [] u h1, h2⟩

/-- handed back anew -/
theorem turn_new (hro : g1.own = false) (hN : Nums.le [⟨b, y, K⟩, p1] N) (hS : Sat (mkE P fn Q w (InR [⟨b, y, K⟩, p1] [g0, g1]) im D Rr [⟨b, y, K⟩, p1] B).toEnv N rg w') (hr : rg[r]? = some ⟨true, cs, none⟩) (hrs : r ≠ 0) (hr0 : rg[0]? = some ⟨true, cs', none⟩) (h0 : 0 < cs.length)
    (hc : ∀ c ∈ cs, ∀ (N N' : Nums) (v : Value), c.den N = some v → c.den N' = some v) (hv : (resV [.osl r 0 n 1 none]).den N = some v) : TurnRet b y K cs n 1 w (.returned v) w' := by
  have hp0 : N[0]? = some ⟨b, y, K⟩ := hN 0 _ rfl
  obtain ⟨p, hp⟩ : ∃ p, N[r]? = some p := ⟨_, List.getElem?_eq_getElem (by rw [hS.len]; exact (List.getElem?_eq_some_iff.1 hr).1)⟩
  simp only [resV, SV.den, hp, Num.cap, Nat.add_zero, Nat.sub_zero, Option.some.injEq] at hv
  have hx := hS.ext r _ _ hr hp rfl
  simp only at hx
  refine ⟨p.b, p.o, p.x, by rw [← hv], .inr ?_, hx, by omega, fun j c hj => ?_, hS.room r _ _ hr hp rfl, hS.chg.mono fun k o _ h => inR_two hro h⟩
  · rcases hS.foot r _ _ hr hp rfl with h | h
    · exact h
    · obtain ⟨e1, e2, e3⟩ := inR_two hro (h 0 (by omega))
      have := hS.disj 0 r _ _ _ _ hr0 hp0 hr hp rfl (fun e => hrs e.symm) 0 (by simp [Rg.wid]; omega) e1
      simp only at this
      omega
  · obtain ⟨u, h1, h2⟩ := hS.cell r _ _ hr hp j c hj
    exact ⟨u, hc c (List.mem_of_getElem? hj) N [] u h1, h2⟩
end

theorem ov_ok {fn : Func} {Q : Ending → World → Prop} {w : World} {im : Mem} {D : Nat → Nat → Prop} {Rr : World → Prop} {B : SchT} {rg : List Rg} {g0 g1 gg : Rg} {b y K vb vy n c k : Nat} {f : Fr} {x y' : Operand} {ts : Array TypeId} (h0 : 0 < K) (hne : vb ≠ b) (hfv : w.frozen? ⟨vb, vy, none⟩ = false) (hsh : ∃ t k, w.shape? vb = some (t, k) ∧ w.frozen? ⟨vb, k, none⟩ = false) (hlt : vb < w.heap.size)
    (hg : rg[0]? = some gg) (ho : gg.own = true) (hx : ev f x = some (.osl 1 0 1 1 (some 1))) (hy : ev f y' = some (.osl 0 c n 1 (some k))) :
    EffOk (mkE Try.prog fn Q w (InR [⟨b, y, K⟩, ⟨vb, vy, 1⟩] [g0, g1]) im D Rr [⟨b, y, K⟩, ⟨vb, vy, 1⟩] B).toEnv [⟨b, y, K⟩, ⟨vb, vy, 1⟩] rg f (.call { callee := .value (.func 72), args := #[x, y'], argTypes := ts }) (.bool (.lit false)) rg := by
  refine EffOk.val fun N ρ o w1 hN hop hρ hS => ⟨.bool false, rfl, ?_⟩
  have hp0 : N[0]? = some ⟨b, y, K⟩ := hN 0 _ rfl
  have hp1 : N[1]? = some ⟨vb, vy, 1⟩ := hN 1 _ rfl
  have hX := hρ _ _ hx
  have hY := hρ _ _ hy
  have hF := hρ (.func 72) _ rfl
  simp only [SV.den, hp0, hp1, Num.cap, one?, if_true, Option.some.injEq] at hX hY hF
  obtain ⟨tA, kA, hs1, hs2⟩ := hsh
  -- the variadic row's block
  obtain ⟨cs1, e1, hc1⟩ : ∃ cs ef, w.heap[vb]? = some (.cells cs tA ef) ∧ cs.size = kA := by
    unfold World.shape? at hs1
    split at hs1
    · rename_i cs el fz hh
      simp only [Option.some.injEq, Prod.mk.injEq] at hs1
      obtain ⟨rfl, rfl⟩ := hs1
      exact ⟨cs, fz, hh, rfl⟩
    · cases hs1
  obtain ⟨hc1, hk1⟩ := hc1
  obtain ⟨cs2, hc2, hk2, _⟩ := hS.chg.cells vb cs1 tA e1 hc1
  have hsa : w1.shape? vb = some (tA, kA) := by simp [World.shape?, hc2, hk2, hk1]
  have hfz : ∀ o, w1.frozen? ⟨vb, o, none⟩ = w.frozen? ⟨vb, o, none⟩ := fun o => by simp [World.frozen?, hc1, hc2]
  -- the other one
  obtain ⟨u, hu⟩ := Option.isSome_iff_exists.1 (hS.room 0 _ _ hg hp0 ho 0 h0).1
  obtain ⟨tB, kB, hsb, hkB⟩ : ∃ tB kB, w1.shape? b = some (tB, kB) ∧ kB ≠ 0 := by
    unfold World.cell? at hu
    split at hu
    · rename_i cs el fz hh
      simp only [Option.isSome_none, Bool.false_eq_true, if_false] at hu
      have := (Array.getElem?_eq_some_iff.1 hu).1
      simp only at hh
      exact ⟨el, cs.size, by simp [World.shape?, hh], by omega⟩
    · cases hu
  have hov := Lib.run_overlaps_apart (P := Try.prog) w1 22 4 5 Try.underlying22 1 Try.sizeOf5 ⟨vb, vy + 0, none⟩ ⟨b, y + c, none⟩ 1 1 n k hne tA tB kA kB hsa hsb hkB (by rw [Nat.add_zero, hfz]; exact hfv) (by rw [hfz]; exact hs2)
  have hcf : (callFunc 72 #[ρ x, ρ y']).run Try.prog w1 = .ok (.value (.bool false)) w1 := by
    rw [← hX, ← hY, run_callFunc_extern Try.func72 (by kernel_rfl) (by kernel_rfl) (by kernel_rfl) (e := Extern.SlicesOverlaps.overlaps #[22, 22] #[4]) (by kernel_rfl), hov]
    rfl
  show (execOp ρ o).run Try.prog w1 = _
  simp only [execOp, hop, resolve, ← hF, Deferred.ofValue, Sem.run_bind, Sem.run_pure, Result.andThen, invoke, List.map_toArray, List.map_cons, List.map_nil, Array.append_empty]
  exact hcf

theorem rep_one : ∀ m, (rep m ti5.zero).all SV.one = true
  | 0 => rfl
  | m + 1 => by rw [rep, List.all_append, rep_one m]; rfl

set_option maxHeartbeats 8000000 in
set_option maxRecDepth 100000 in
set_option cbv.maxSteps 100000000 in
theorem insert8_ok (b y n K at' vb vy : Nat) (l : List Int) (x : Int) (w : World) (hn : l.length = n) (hat : at' ≤ n) (hnK : n ≤ K) (hbig : n ≤ 1000) (h0 : 0 < K) (hA : ∀ j, j < n → w.cell? ⟨b, y + j, none⟩ = some (.int .u8 l[j]!)) (hroom : ∀ j, j < K → (w.cell? ⟨b, y + j, none⟩).isSome = true ∧ w.frozen? ⟨b, y + j, none⟩ = false)
    (hv : w.cell? ⟨vb, vy, none⟩ = some (.int .u8 x)) (hne : vb ≠ b) (hfv : w.frozen? ⟨vb, vy, none⟩ = false) (hsh : ∃ t k, w.shape? vb = some (t, k) ∧ w.frozen? ⟨vb, k, none⟩ = false) :
    Calls Try.prog 57 #[.slice (some ⟨b, y, none⟩) n K, .int .i64 at', .slice (some ⟨vb, vy, none⟩) 1 1] w (TurnRet b y K (bytL (insL l at' x)) (n + 1) 1 w) := by
  obtain ⟨Q, hQ⟩ : ∃ Q : Ending → World → Prop, Q = TurnRet b y K (bytL (insL l at' x)) (n + 1) 1 w := ⟨_, rfl⟩
  rw [← hQ]
  obtain ⟨cs, hcs⟩ : ∃ cs, cs = bytL l := ⟨_, rfl⟩
  have hlen : cs.length = n := by rw [hcs, bytL_len, hn]
  have hone : cs.all SV.one = true := by rw [hcs]; exact bytL_one
  have hcell : ∀ (j : Nat) (c : SV), cs[j]? = some c → ∃ v, (∀ N, c.den N = some v) ∧ w.cell? ⟨b, y + j, none⟩ = some v := fun j c hj => by
    have hjn := (List.getElem?_eq_some_iff.1 hj).1
    rw [hcs] at hj
    have hjl : j < l.length := by omega
    obtain rfl : c = .int .u8 (.v l[j]!) := by simpa [bytL, hjl] using hj.symm
    exact ⟨_, fun _ => rfl, hA j (by omega)⟩
  have hlt : b < w.heap.size := World.block_lt_of_cell? _ _ (Option.isSome_iff_exists.1 (hroom 0 h0).1).choose_spec
  refine X.begin (rg := [⟨true, cs, none⟩, ⟨false, [.int .u8 (.v x)], none⟩]) (N := [⟨b, y, K⟩, ⟨vb, vy, 1⟩]) (ss := [.osl 0 0 n 1 (some K), .int .i64 (.nat at'), .osl 1 0 1 1 (some 1)]) Try.func57 rfl B57_ok rfl rfl
    (Sat.stdL ⟨⟨hlt, rfl, fun j c hj => (hcell j c hj).imp fun v h => ⟨h.1 _, h.2⟩, fun _ => by rw [hlen]; exact hnK, fun _ => hroom⟩,
      ⟨World.block_lt_of_cell? _ _ hv, rfl, fun j c hj => by
        cases j with
        | zero => simp at hj; subst hj; exact ⟨_, rfl, hv⟩
        | succ j => simp at hj, (fun h => by cases h), (fun h => by cases h)⟩, trivial⟩ ⟨⟨fun _ j j' _ _ h => hne h.1.symm, trivial⟩, trivial, trivial⟩) ?_
  obtain ⟨d, hd⟩ : ∃ d, d = n - at' := ⟨_, rfl⟩
  obtain ⟨kd, hkd⟩ : ∃ d, d = K - at' := ⟨_, rfl⟩
  obtain ⟨ca, hca⟩ : ∃ d, d = if K = at' then 0 else at' := ⟨_, rfl⟩
  obtain ⟨n1, hn1⟩ : ∃ m, m = n + 1 := ⟨_, rfl⟩
  refine X.goX ([(12, .osl 0 ca d 1 (some kd))]) ([]) T57_ok 400 _ rfl Try.results57 (fun pr pe fin hpr hpe hfin => ?_)
  conv => cbv
  refine ⟨hpr _ (vk_slice (zl := some at') (zh := none) (zm := none) rfl ⟨_, _, rfl, fun _ => rfl⟩ trivial trivial (by simp) Try.underlying22 Try.sizeOf5 (by simpa using hat) (by simpa using hnK) (by simp) rfl (by rw [hca]; simp) hd hkd), hfin _ _ ?_⟩
  clear hpr hpe hfin
  refine X.cond rfl (fun hT => ?_) (fun hF => ?_)
  · simp only [SB.T, SI.den, Int.ofNat_eq_natCast] at hT
    have hat2 : at' = n := by omega
    obtain ⟨c2, hc2⟩ : ∃ c, c = bytL (insL l at' x) := ⟨_, rfl⟩
    have hc2' : c2 = cs ++ [.int .u8 (.v x)] := by
      rw [hc2, bytL_ins, hat2, ← hcs, List.take_of_length_le (by omega), List.drop_of_length_le (by omega)]
    by_cases hK : n + 1 ≤ K
    · refine X.goX ([]) ([(25, ⟨fun _ => .osl 0 0 n1 1 (some K), [(0, ⟨true, c2, none⟩)], []⟩)]) T57_ok 400 _ rfl Try.results57 (fun pr pe fin hpr hpe hfin => ?_)
      conv => cbv
      refine ⟨hpe _ _ _ _ _ ?_, hfin _ _ ?_⟩
      · refine EffOk.appIn (te := ti5) (n := n) (m := 1) (r := 0) (c := 0) (kk := K) (new := [.int .u8 (.v x)]) (g := ⟨true, cs, none⟩) T57_ok rfl rfl rfl rfl rfl rfl rfl rfl (by show 0 + n * 1 ≤ cs.length; omega) (appOk_ok (by decide) rfl rfl rfl (by show (2 * (n + 1) + 256) * 1 ≤ _; omega) (by omega)) hK hn1 ?_ (fun N p hN hp _ => by
          have := hN 0 _ rfl
          rw [hp] at this; cases this
          show 0 + (n + 1) * 1 ≤ K
          omega)
        rw [show 0 + n * ti5.size = cs.length by show 0 + n * 1 = _; omega, hc2']
        exact (setRow_end _ _).symm
      · refine X.done T57_ok rfl (fun N w' v hN hS hv => ?_)
        rw [hQ, ← hc2, ← hn1]
        exact turn_in rfl hN hS rfl h0 (fun c hc N N' v h => bytL_den (by rw [← hc2]; exact hc) h) hv
    · refine X.goX ([]) ([(25, ⟨fun rg => .osl rg.length 0 n1 1 none, [], [⟨true, c2, none⟩]⟩)]) T57_ok 400 _ rfl Try.results57 (fun pr pe fin hpr hpe hfin => ?_)
      conv => cbv
      refine ⟨hpe _ _ _ _ _ ?_, hfin _ _ ?_⟩
      · refine EffOk.appFull (te := ti5) (n := n) (m := 1) (r := 0) (c := 0) (kk := K) (new := [.int .u8 (.v x)]) (g := ⟨true, cs, none⟩) T57_ok rfl rfl rfl rfl rfl rfl rfl (by show 0 + n * 1 ≤ cs.length; omega) (appOk_ok (by decide) rfl rfl rfl (by show (2 * (n + 1) + 256) * 1 ≤ _; omega) (by omega)) (by omega) hn1 ?_
        rw [hc2']
        show _ = (cs.drop 0).take (n * 1) ++ _
        rw [List.drop_zero, List.take_of_length_le (by omega)]
      · refine X.done T57_ok rfl (fun N w' v hN hS hv => ?_)
        rw [hQ, ← hc2, ← hn1]
        exact turn_new (r := 2) rfl hN hS rfl (by decide) rfl (by rw [hc2']; simp) (fun c hc N N' v h => bytL_den (by rw [← hc2]; exact hc) h) hv
  · simp only [SB.F, SI.den, Int.ofNat_eq_natCast] at hF
    have hat3 : at' < n := by omega
    obtain ⟨m1, hm1⟩ : ∃ m, m = n + 1 - at' := ⟨_, rfl⟩
    obtain ⟨a1, ha1⟩ : ∃ m, m = at' + 1 := ⟨_, rfl⟩
    obtain ⟨c2, hc2⟩ : ∃ c, c = bytL (insL l at' x) := ⟨_, rfl⟩
    have hc2' : c2 = cs.take at' ++ .int .u8 (.v x) :: cs.drop at' := by rw [hc2, bytL_ins, ← hcs]
    have hdl : (cs.drop at').length = d := by rw [List.length_drop]; omega
    have hone' : ∀ a b, ((cs.drop a).take b).all SV.one = true := fun a b => by
      rw [List.all_eq_true] at hone ⊢
      exact fun c hc => hone c (List.mem_of_mem_drop (List.mem_of_mem_take hc))
    refine X.goX ([(28, .int .i64 (.nat n1)), (30, .int .i64 (.nat K))]) ([]) T57_ok 400 _ rfl Try.results57 (fun pr pe fin hpr hpe hfin => ?_)
    conv => cbv
    refine ⟨hpr _ (vk_addN (m1 := n) (m2 := 1) rfl rfl (fun _ => rfl) (fun _ => rfl) hn1 (by omega) rfl), hpr _ (vk_cap rfl (by simp) Try.underlying22), hfin _ _ ?_⟩
    clear hpr hpe hfin
    refine X.cond rfl (fun hT => ?_) (fun hF2 => ?_)
    · simp only [SB.T, SI.den] at hT
      have hKn : K = n := by omega
      obtain ⟨Z, hZ⟩ : ∃ Z, Z = rep m1 ti5.zero := ⟨_, rfl⟩
      have hZl : Z.length = cs.length + 1 - at' := by
        have : ti5.zero.length = 1 := rfl
        rw [hZ, rep_len, this]; omega
      obtain ⟨k1, k2⟩ := ins_new cs Z at' (.int .u8 (.v x)) (by omega) hZl
      obtain ⟨z0, hz0⟩ : ∃ z, z = cs.take at' ++ Z := ⟨_, rfl⟩
      rw [← hz0, ← ha1, ← hc2'] at k2
      rw [← hz0] at k1
      have hz0l : z0.length = n1 := by
        rw [hz0, List.length_append, List.length_take, hZl]; omega
      obtain ⟨z1, hz1⟩ : ∃ z, z = setRow z0 at' [.int .u8 (.v x)] := ⟨_, rfl⟩
      rw [← hz1] at k1 k2
      refine X.goX ([(34, .osl 0 0 at' 1 (some K)), (37, .int .i64 (.nat n1)), (39, .int .i64 (.lit (Int.ofNat m1))), (43, .osl 2 at' m1 1 none), (49, .int .i64 (.nat a1)), (50, .osl 2 a1 d 1 none), (53, .osl 0 at' d 1 (some kd))]) ([(40, ⟨fun rg => .osl rg.length 0 n1 1 none, [], [⟨true, z0, none⟩]⟩), (45, ⟨fun _ => .int .i64 (.lit (Int.ofNat 1)), [(2, ⟨true, z1, none⟩)], []⟩), (54, ⟨fun _ => .int .i64 (.lit (Int.ofNat d)), [(2, ⟨true, c2, none⟩)], []⟩)]) T57_ok 400 _ rfl Try.results57 (fun pr pe fin hpr hpe hfin => ?_)
      conv => cbv
      refine ⟨hpr _ (vk_slice (zl := none) (zh := some at') (zm := none) rfl trivial ⟨_, _, rfl, fun _ => rfl⟩ trivial (by simp) Try.underlying22 Try.sizeOf5 (Nat.zero_le _) (by show at' ≤ K; omega) (Nat.le_refl _) rfl (by show 0 = if K = 0 then 0 else 0 + 0 * 1; rw [if_neg (by omega)]) rfl rfl),
        hpr _ (vk_addN (m1 := n) (m2 := 1) rfl rfl (fun _ => rfl) (fun _ => rfl) hn1 (by omega) rfl), hpr _ (vk_subN (m1 := n1) (m2 := at') (m := m1) rfl rfl (fun _ => rfl) (fun _ => rfl) (by omega) (by omega) rfl),
        hpe _ _ _ _ _ (EffOk.appFull (te := ti5) (n := at') (m := m1) (r := 0) (c := 0) (kk := K) (new := Z) (g := ⟨true, cs, none⟩) T57_ok rfl rfl rfl rfl rfl (by rw [hZ]; exact appSrc_zeros rfl rfl) rfl (by show 0 + at' * 1 ≤ cs.length; omega) (appOk_ok (by decide) rfl (by show _ = m1 * 1; omega) (by rw [hZ]; exact rep_one m1) (by show (2 * (at' + m1) + 256) * 1 ≤ _; omega) (by omega)) (by omega) (by omega) (by rw [hz0]; show _ = (cs.drop 0).take (at' * 1) ++ _; rw [List.drop_zero, Nat.mul_one])),
        hpr _ (vk_sliceN (zl := some at') (zh := none) (gg := ⟨true, z0, none⟩) rfl ⟨_, _, rfl, fun _ => rfl⟩ trivial rfl rfl (by decide) Try.underlying22 Try.sizeOf5 (by show at' ≤ n1; omega) (by show 0 + n1 * 1 ≤ z0.length; omega) (.inr (by show 0 + (at' + 1) * 1 ≤ z0.length; omega)) (by show at' = 0 + at' * 1; omega) (by show m1 = n1 - at'; omega)),
        hpe _ _ _ _ _ (EffOk.copyX (te := ti5) (r := 2) (c := at') (n := m1) (r2 := 1) (c2 := 0) (m := 1) (q := 1) (g := ⟨true, z0, none⟩) (g2 := ⟨false, [.int .u8 (.v x)], none⟩) T57_ok rfl rfl rfl rfl rfl rfl rfl rfl (by omega) (by show 0 + 1 * 1 ≤ 1; omega) (by show at' ≤ z0.length; omega) rfl (fun N p _ _ hl => by
          have hl : z0.length ≤ p.x := hl
          show at' + 1 * 1 ≤ p.x
          omega) hz1),
        hpr _ (vk_addN (m1 := at') (m2 := 1) rfl rfl (fun _ => rfl) (fun _ => rfl) ha1 (by omega) rfl),
        hpr _ (vk_sliceN (zl := some a1) (zh := none) (gg := ⟨true, z1, none⟩) rfl ⟨_, _, rfl, fun _ => rfl⟩ trivial rfl rfl (by decide) Try.underlying22 Try.sizeOf5 (by show a1 ≤ n1; omega) (by show 0 + n1 * 1 ≤ z1.length; omega) (.inr (by show 0 + (a1 + 1) * 1 ≤ z1.length; omega)) (by show a1 = 0 + a1 * 1; omega) (by show d = n1 - a1; omega)),
        hpr _ (vk_slice (zl := some at') (zh := none) (zm := none) rfl ⟨_, _, rfl, fun _ => rfl⟩ trivial trivial (by simp [maskRg]) Try.underlying22 Try.sizeOf5 (by show at' ≤ n; omega) (by show n ≤ K; omega) (Nat.le_refl _) rfl (by show at' = if K = at' then 0 else 0 + at' * 1; rw [if_neg (by omega)]; omega) hd hkd),
        hpe _ _ _ _ _ (EffOk.copyX (te := ti5) (r := 2) (c := a1) (n := d) (r2 := 0) (c2 := at') (m := d) (q := d) (g := ⟨true, z1, none⟩) (g2 := ⟨true, cs, none⟩) T57_ok rfl rfl rfl rfl rfl rfl rfl rfl (by omega) (by show at' + d * 1 ≤ cs.length; omega) (by show a1 ≤ z1.length; omega) (hone' _ _) (fun N p _ _ hl => by
          have hl : z1.length ≤ p.x := hl
          show a1 + d * 1 ≤ p.x
          omega) (by
          show c2 = setRow z1 a1 ((cs.drop at').take (d * 1))
          rw [List.take_of_length_le (show (cs.drop at').length ≤ d * 1 by omega), k2])), hfin _ _ ?_⟩
      refine X.done T57_ok rfl (fun N w' v hN hS hv => ?_)
      rw [hQ, ← hc2, ← hn1]
      exact turn_new (r := 2) rfl hN hS rfl (by decide) rfl (by rw [hc2', List.length_append, List.length_cons]; omega) (fun c hc N N' v h => bytL_den (by rw [← hc2]; exact hc) h) hv
    · simp only [SB.F, SI.den] at hF2
      have hKn : n + 1 ≤ K := by omega
      obtain ⟨k2, hk2⟩ : ∃ k, k = K - a1 := ⟨_, rfl⟩
      obtain ⟨k3, k4⟩ := ins_in cs at' (.int .u8 (.v x)) (by omega)
      obtain ⟨y1, hy1⟩ : ∃ y, y = setRow cs a1 (cs.drop at') := ⟨_, rfl⟩
      rw [← ha1, ← hy1, ← hc2'] at k4
      rw [← ha1, ← hy1] at k3
      refine X.goX ([(59, .int .i64 (.nat n1)), (60, .osl 0 0 n1 1 (some K)), (65, .int .i64 (.nat a1)), (66, .osl 0 a1 d 1 (some k2)), (72, .int .i64 (.nat a1)), (73, .osl 0 a1 d 1 (some k2)), (76, .osl 0 at' m1 1 (some kd)), (80, .osl 0 at' m1 1 (some kd))]) ([(67, ⟨fun _ => .bool (.lit false), [], []⟩), (77, ⟨fun _ => .int .i64 (.lit (Int.ofNat d)), [(0, ⟨true, y1, none⟩)], []⟩), (82, ⟨fun _ => .int .i64 (.lit (Int.ofNat 1)), [(0, ⟨true, c2, none⟩)], []⟩)]) T57_ok 400 _ rfl Try.results57 (fun pr pe fin hpr hpe hfin => ?_)
      conv => cbv
      refine ⟨hpr _ (vk_addN (m1 := n) (m2 := 1) rfl rfl (fun _ => rfl) (fun _ => rfl) hn1 (by omega) rfl),
        hpr _ (vk_slice (zl := none) (zh := some n1) (zm := none) rfl trivial ⟨_, _, rfl, fun _ => rfl⟩ trivial (by simp) Try.underlying22 Try.sizeOf5 (Nat.zero_le _) (by show n1 ≤ K; omega) (Nat.le_refl _) rfl (by show 0 = if K = 0 then 0 else 0 + 0 * 1; rw [if_neg (by omega)]) rfl rfl),
        hpr _ (vk_addN (m1 := at') (m2 := 1) rfl rfl (fun _ => rfl) (fun _ => rfl) ha1 (by omega) rfl),
        hpr _ (vk_slice (zl := some a1) (zh := none) (zm := none) rfl ⟨_, _, rfl, fun _ => rfl⟩ trivial trivial (by simp) Try.underlying22 Try.sizeOf5 (by show a1 ≤ n1; omega) (by show n1 ≤ K; omega) (Nat.le_refl _) rfl (by show a1 = if K = a1 then 0 else 0 + a1 * 1; rw [if_neg (by omega)]; omega) (by show d = n1 - a1; omega) hk2),
        hpe _ _ _ _ _ (ov_ok h0 hne hfv hsh (World.block_lt_of_cell? _ _ hv) rfl rfl rfl rfl),
        hpr _ (vk_addN (m1 := at') (m2 := 1) rfl rfl (fun _ => rfl) (fun _ => rfl) ha1 (by omega) rfl),
        hpr _ (vk_slice (zl := some a1) (zh := none) (zm := none) rfl ⟨_, _, rfl, fun _ => rfl⟩ trivial trivial (by simp [maskRg]) Try.underlying22 Try.sizeOf5 (by show a1 ≤ n1; omega) (by show n1 ≤ K; omega) (Nat.le_refl _) rfl (by show a1 = if K = a1 then 0 else 0 + a1 * 1; rw [if_neg (by omega)]; omega) (by show d = n1 - a1; omega) hk2),
        hpr _ (vk_slice (zl := some at') (zh := none) (zm := none) rfl ⟨_, _, rfl, fun _ => rfl⟩ trivial trivial (by simp [maskRg]) Try.underlying22 Try.sizeOf5 (by show at' ≤ n1; omega) (by show n1 ≤ K; omega) (Nat.le_refl _) rfl (by show at' = if K = at' then 0 else 0 + at' * 1; rw [if_neg (by omega)]; omega) (by show m1 = n1 - at'; omega) hkd),
        hpe _ _ _ _ _ (EffOk.copyX (te := ti5) (r := 0) (c := a1) (n := d) (r2 := 0) (c2 := at') (m := m1) (q := d) (g := ⟨true, cs, none⟩) (g2 := ⟨true, cs, none⟩) T57_ok rfl rfl rfl rfl rfl rfl rfl rfl (by omega) (by show at' + d * 1 ≤ cs.length; omega) (by show a1 ≤ cs.length; omega) (hone' _ _) (fun N p hN hp _ => by
          have := hN 0 _ rfl
          rw [hp] at this; cases this
          show a1 + d * 1 ≤ K
          omega) (by
          show y1 = setRow cs a1 ((cs.drop at').take (d * 1))
          rw [List.take_of_length_le (show (cs.drop at').length ≤ d * 1 by omega), hy1])),
        hpr _ (vk_slice (zl := some at') (zh := none) (zm := none) rfl ⟨_, _, rfl, fun _ => rfl⟩ trivial trivial (by simp [maskRg]) Try.underlying22 Try.sizeOf5 (by show at' ≤ n1; omega) (by show n1 ≤ K; omega) (Nat.le_refl _) rfl (by show at' = if K = at' then 0 else 0 + at' * 1; rw [if_neg (by omega)]; omega) (by show m1 = n1 - at'; omega) hkd),
        hpe _ _ _ _ _ (EffOk.copyX (te := ti5) (r := 0) (c := at') (n := m1) (r2 := 1) (c2 := 0) (m := 1) (q := 1) (g := ⟨true, y1, none⟩) (g2 := ⟨false, [.int .u8 (.v x)], none⟩) T57_ok rfl rfl rfl rfl rfl rfl rfl rfl (by omega) (by show 0 + 1 * 1 ≤ 1; omega) (by show at' ≤ y1.length; omega) rfl (fun N p _ _ hl => by
          have hl : y1.length ≤ p.x := hl
          show at' + 1 * 1 ≤ p.x
          omega) k4.symm), hfin _ _ ?_⟩
      refine X.done T57_ok rfl (fun N w' v hN hS hv => ?_)
      rw [hQ, ← hc2, ← hn1]
      exact turn_in rfl hN hS rfl h0 (fun c hc N N' v h => bytL_den (by rw [← hc2]; exact hc) h) hv

end Go.Proofs.Ythaffebapmkppaa

namespace Go.Eng
open Go

theorem EffOk.clear {E : Env} {N0 : Nums} {T : Tab} (hT : TabOk E.P T) {rg : List Rg} {f : Fr} {x : Operand} {ts e r c n : Nat} {ti te : TI} {k : Option Nat} {g : Rg} {cs' : List SV} (hx : ev f x = some (.osl r c n te.size k)) (hti : lookT T ts = some ti) (hk : ti.kind = .slice e) (hte : lookT T e = some te) (hz : te.zero.length = te.size) (hz0 : 0 < te.size)
    (hg : rg[r]? = some g) (ho : g.own = true) (hn : n ≠ 0) (hc : c ≤ g.cells.length) (h1 : (rep n te.zero).all SV.one = true) (hp : ∀ (N : Nums) (p : Num), N0.le N → N[r]? = some p → g.cells.length ≤ p.x → c + n * te.size ≤ p.x) (hcs : cs' = setRow g.cells c (rep n te.zero)) :
    EffOk E N0 rg f (.call { callee := .builtin .clear, args := #[x], argTypes := #[ts] }) (.tup []) (rg.set r { g with cells := cs' }) := by
  intro N ρ o w hN hop hf h
  have ok := (hT.ok ts ti hti).kind
  rw [hk] at ok
  have ok' : E.P.underlying ts = some (.slice e) := ok
  have oke := hT.ok e te hte
  obtain ⟨z, hzr, hzd⟩ := oke.zero
  have hzd' : SV.denL N te.zero = some z.cells.toList := SV.denL_mono (N := []) (N' := N) (fun r p h => by simp at h) _ hzd
  have z2 : z.cells.size = te.size := by
    have := (SV.denL_get _ hzd').1
    simp at this; omega
  have hd := hf _ _ hx
  obtain ⟨p, hpn⟩ : ∃ p, N[r]? = some p := ⟨_, List.getElem?_eq_getElem (by rw [h.len]; exact (List.getElem?_eq_some_iff.1 hg).1)⟩
  have hext := h.ext r g p hg hpn ho
  have hpx := hp N p hN hpn hext
  simp only [SV.den, hpn, Option.some.injEq] at hd
  have hden := denL_rep hzd' n
  obtain ⟨w', hst, hsat⟩ := Sat.store hpn c (rep n te.zero) (repV n z.cells.toList) 0 h hg ho (by omega) (by rw [rep_len, hz]; omega) hden (one_cells h1 hden)
  have hrun : (Builtin.clear_ #[ts] o.type #[ρ x]).run E.P w = .ok (.tuple #[]) w' := by
    rw [← hd]
    simp only [Builtin.clear_, List.getElem?_toArray, List.getElem?_cons_zero, Sem.run_bind, run_underlying ok', Result.andThen]
    cases n with
    | zero => exact absurd rfl hn
    | succ n =>
      simp only [Sem.run_bind, hzr, Result.andThen, Builtin.zeroCells]
      rw [zeros_eq (by omega), hst]
      rfl
  subst hcs
  refine .inl ⟨_, w', .inl ?_, N, Nums.le.refl N, by simp only [SV.den, SV.denL]; rfl, by simpa using hsat⟩
  simp [execOp, hop, resolve, invoke, builtin, hrun]

end Go.Eng

namespace Go.Proofs.Ythaffebapmkppaa
open Go Go.Eng Go.Sort

def delL (l : List Int) (at' : Nat) : List Int := l.take at' ++ l.drop (at' + 1)

theorem bytL_del (l : List Int) (a : Nat) : bytL (delL l a) = (bytL l).take a ++ (bytL l).drop (a + 1) := by
  unfold bytL delL
  simp [List.map_take, List.map_drop]

theorem TurnRet.pre {b y K n sz : Nat} {cs cs' : List SV} {w w' : World} {e : Ending} (h : TurnRet b y K cs n sz w e w') (hp : cs' <+: cs) : TurnRet b y K cs' n sz w e w' := by
  obtain ⟨b', y', x', h1, h2, h3, h4, h5, h6, h7⟩ := h
  refine ⟨b', y', x', h1, h2, Nat.le_trans hp.length_le h3, h4, fun j c hj => h5 j c ?_, h6, h7⟩
  obtain ⟨t, rfl⟩ := hp
  rw [List.getElem?_append_left (List.getElem?_eq_some_iff.1 hj).1]
  exact hj

set_option maxHeartbeats 8000000 in
set_option maxRecDepth 100000 in
set_option cbv.maxSteps 100000000 in
theorem delete8_ok (b y n K at' : Nat) (l : List Int) (w : World) (hn : l.length = n) (hat : at' < n) (hnK : n ≤ K) (hbig : n ≤ 1000) (hA : ∀ j, j < n → w.cell? ⟨b, y + j, none⟩ = some (.int .u8 l[j]!)) (hroom : ∀ j, j < K → (w.cell? ⟨b, y + j, none⟩).isSome = true ∧ w.frozen? ⟨b, y + j, none⟩ = false) :
    Calls Try.prog 56 #[.slice (some ⟨b, y, none⟩) n K, .int .i64 at', .int .i64 (at' + 1 : Nat)] w (TurnRet b y K (bytL (delL l at')) (n - 1) 1 w) := by
  obtain ⟨Q, hQ⟩ : ∃ Q : Ending → World → Prop, Q = TurnRet b y K (bytL (delL l at')) (n - 1) 1 w := ⟨_, rfl⟩
  rw [← hQ]
  obtain ⟨cs, hcs⟩ : ∃ cs, cs = bytL l := ⟨_, rfl⟩
  have hlen : cs.length = n := by rw [hcs, bytL_len, hn]
  have hone : cs.all SV.one = true := by rw [hcs]; exact bytL_one
  have hcell : ∀ (j : Nat) (c : SV), cs[j]? = some c → ∃ v, (∀ N, c.den N = some v) ∧ w.cell? ⟨b, y + j, none⟩ = some v := fun j c hj => by
    have hjn := (List.getElem?_eq_some_iff.1 hj).1
    rw [hcs] at hj
    have hjl : j < l.length := by omega
    obtain rfl : c = .int .u8 (.v l[j]!) := by simpa [bytL, hjl] using hj.symm
    exact ⟨_, fun _ => rfl, hA j (by omega)⟩
  have hlt : b < w.heap.size := World.block_lt_of_cell? _ _ (Option.isSome_iff_exists.1 (hroom 0 (by omega)).1).choose_spec
  obtain ⟨a1, ha1⟩ : ∃ m, m = at' + 1 := ⟨_, rfl⟩
  rw [← ha1]
  refine X.begin (rg := [⟨true, cs, none⟩, ⟨false, [], none⟩]) (N := [⟨b, y, K⟩, ⟨b, y, 0⟩]) (ss := [.osl 0 0 n 1 (some K), .int .i64 (.nat at'), .int .i64 (.nat a1)]) Try.func56 rfl B56_ok rfl rfl
    (Sat.stdL ⟨⟨hlt, rfl, fun j c hj => (hcell j c hj).imp fun v h => ⟨h.1 _, h.2⟩, fun _ => by rw [hlen]; exact hnK, fun _ => hroom⟩,
      ⟨hlt, rfl, fun j c hj => by simp at hj, (fun h => by cases h), (fun h => by cases h)⟩, trivial⟩ ⟨⟨fun _ j j' _ h2 => by simp [Rg.wid] at h2, trivial⟩, trivial, trivial⟩) ?_
  obtain ⟨n0, hn0⟩ : ∃ m, m = n - 1 := ⟨_, rfl⟩
  obtain ⟨d, hd⟩ : ∃ d, d = n - a1 := ⟨_, rfl⟩
  obtain ⟨ka, hka⟩ : ∃ d, d = n - at' := ⟨_, rfl⟩
  obtain ⟨kd, hkd⟩ : ∃ d, d = K - a1 := ⟨_, rfl⟩
  obtain ⟨k1, hk1⟩ : ∃ d, d = K - n0 := ⟨_, rfl⟩
  obtain ⟨cc, hcc⟩ : ∃ d, d = if K = a1 then 0 else a1 := ⟨_, rfl⟩
  obtain ⟨y1, hy1⟩ : ∃ y, y = setRow cs at' ((cs.drop cc).take d) := ⟨_, rfl⟩
  obtain ⟨y2, hy2⟩ : ∃ y, y = setRow y1 n0 (rep 1 ti5.zero) := ⟨_, rfl⟩
  refine X.goX ([(13, .osl 0 at' 1 1 (some ka))]) ([]) T56_ok 400 _ rfl Try.results56 (fun pr pe fin hpr hpe hfin => ?_)
  conv => cbv
  refine ⟨hpr _ (vk_slice (zl := some at') (zh := some a1) (zm := some n) rfl ⟨_, _, rfl, fun _ => rfl⟩ ⟨_, _, rfl, fun _ => rfl⟩ ⟨_, _, rfl, fun _ => rfl⟩ (by simp) Try.underlying22 Try.sizeOf5 (by show at' ≤ a1; omega) (by show a1 ≤ n; omega) hnK rfl (by show at' = if n = at' then 0 else 0 + at' * 1; rw [if_neg (by omega)]; omega) (by show 1 = a1 - at'; omega) hka), hfin _ _ ?_⟩
  clear hpr hpe hfin
  refine X.cond rfl (fun hT => ?_) (fun hF => ?_)
  · simp only [SB.T, SI.den] at hT
    omega
  clear hF
  refine X.goX ([(22, .osl 0 0 at' 1 (some K)), (25, .osl 0 cc d 1 (some kd)), (31, .osl 0 n0 1 1 (some k1))]) ([(26, ⟨fun _ => .osl 0 0 n0 1 (some K), [(0, ⟨true, y1, none⟩)], []⟩), (1005, ⟨fun _ => .tup [], [(0, ⟨true, y2, none⟩)], []⟩)]) T56_ok 400 _ rfl Try.results56 (fun pr pe fin hpr hpe hfin => ?_)
  conv => cbv
  have hD : (cs.drop cc).take d = cs.drop a1 := by
    by_cases hk : K = a1
    · rw [show d = 0 by omega, List.take_zero]
      exact (List.drop_of_length_le (by omega)).symm
    · rw [hcc, if_neg hk]
      exact List.take_of_length_le (by rw [List.length_drop]; omega)
  have hccd : cc + d ≤ n := by
    by_cases hk : K = a1
    · rw [hcc, if_pos hk]; omega
    · rw [hcc, if_neg hk]; omega
  obtain ⟨c2, hc2⟩ : ∃ c, c = bytL (delL l at') := ⟨_, rfl⟩
  have hc2' : c2 = cs.take at' ++ cs.drop a1 := by rw [hc2, bytL_del, ← hcs, ha1]
  have hc2l : c2.length = n0 := by rw [hc2', List.length_append, List.length_take, List.length_drop]; omega
  have hy1e : y1 = c2 ++ cs.drop (at' + d) := by
    rw [hy1, hD, setRow_eq _ _ _ (by omega), hc2', show (cs.drop a1).length = d by rw [List.length_drop]; omega]
  have hy1l : y1.length = n := by rw [hy1e, List.length_append, hc2l, List.length_drop]; omega
  have hpre : c2 <+: y2 := by
    refine ⟨rep 1 ti5.zero ++ y1.drop (n0 + (rep 1 ti5.zero).length), ?_⟩
    rw [hy2, setRow_eq _ _ _ (by omega), List.append_assoc]
    congr 1
    rw [hy1e, List.take_append_of_le_length (by omega), List.take_of_length_le (by omega)]
  have hone' : ∀ a b, ((cs.drop a).take b).all SV.one = true := fun a b => by
    rw [List.all_eq_true] at hone ⊢
    exact fun c hc => hone c (List.mem_of_mem_drop (List.mem_of_mem_take hc))
  refine ⟨hpr _ (vk_slice (zl := none) (zh := some at') (zm := none) rfl trivial ⟨_, _, rfl, fun _ => rfl⟩ trivial (by simp [maskRg]) Try.underlying22 Try.sizeOf5 (Nat.zero_le _) (by show at' ≤ K; omega) (Nat.le_refl _) rfl (by show 0 = if K = 0 then 0 else 0 + 0 * 1; rw [if_neg (by omega)]) rfl rfl),
    hpr _ (vk_slice (zl := some a1) (zh := none) (zm := none) rfl ⟨_, _, rfl, fun _ => rfl⟩ trivial trivial (by simp [maskRg]) Try.underlying22 Try.sizeOf5 (by show a1 ≤ n; omega) (by show n ≤ K; omega) (Nat.le_refl _) rfl (by show cc = if K = a1 then 0 else 0 + a1 * 1; rw [hcc]; split <;> omega) hd hkd),
    hpe _ _ _ _ _ (EffOk.appIn (te := ti5) (n := at') (m := d) (r := 0) (c := 0) (kk := K) (new := (cs.drop cc).take d) (g := ⟨true, cs, none⟩) T56_ok rfl rfl rfl rfl rfl (appSrc_part (g := ⟨true, cs, none⟩) rfl rfl rfl rfl (by show cc + d ≤ cs.length; omega)) rfl rfl (by show 0 + at' * 1 ≤ cs.length; omega) (appOk_ok (by decide) rfl (by rw [hD, List.length_drop]; show _ = d * 1; omega) (hone' _ _) (by show (2 * (at' + d) + 256) * 1 ≤ _; omega) (by omega)) (by omega) (by omega) (by rw [hy1]; show _ = setRow cs (0 + at' * 1) _; rw [Nat.zero_add, Nat.mul_one]) (fun N p hN hp _ => by
      have := hN 0 _ rfl
      rw [hp] at this; cases this
      show 0 + (at' + d) * 1 ≤ K
      omega)),
    hpr _ (vk_slice (zl := some n0) (zh := some n) (zm := none) rfl ⟨_, _, rfl, fun _ => rfl⟩ ⟨_, _, rfl, fun _ => rfl⟩ trivial (by simp) Try.underlying22 Try.sizeOf5 (by show n0 ≤ n; omega) (by show n ≤ K; omega) (Nat.le_refl _) rfl (by show n0 = if K = n0 then 0 else 0 + n0 * 1; rw [if_neg (by omega)]; omega) (by show 1 = n - n0; omega) hk1),
    hpe _ _ _ _ _ (EffOk.clear (te := ti5) (r := 0) (c := n0) (n := 1) (g := ⟨true, y1, none⟩) T56_ok rfl rfl rfl rfl rfl (by decide) rfl rfl (by decide) (by show n0 ≤ y1.length; omega) rfl (fun N p _ _ hl => by
      have hl : y1.length ≤ p.x := hl
      show n0 + 1 * 1 ≤ p.x
      omega) hy2), hfin _ _ ?_⟩
  refine X.done T56_ok rfl (fun N w' v hN hS hv => ?_)
  rw [hQ, ← hc2, ← hn0]
  refine TurnRet.pre (turn_in (g1 := ⟨false, [], none⟩) rfl hN hS rfl (by omega) (fun c hc N N' v h => ?_) hv) hpre
  have hmem : c ∈ bytL l ∨ c = .int .u8 (.lit 0) := by
    rw [hy2, setRow_eq _ _ _ (by omega)] at hc
    have hin : ∀ c ∈ y1, c ∈ bytL l := fun c hc => by
      rw [hy1e, hc2'] at hc
      rw [← hcs]
      rcases List.mem_append.1 hc with h | h
      · rcases List.mem_append.1 h with h | h
        · exact List.mem_of_mem_take h
        · exact List.mem_of_mem_drop h
      · exact List.mem_of_mem_drop h
    rcases List.mem_append.1 hc with h | h
    · rcases List.mem_append.1 h with h | h
      · exact .inl (hin c (List.mem_of_mem_take h))
      · right
        have h : c ∈ [SV.int .u8 (.lit 0)] := h
        simpa using h
    · exact .inl (hin c (List.mem_of_mem_drop h))
  rcases hmem with h1 | rfl
  · exact bytL_den h1 h
  · exact h

end Go.Proofs.Ythaffebapmkppaa

namespace Go.Eng
open Go

theorem Sat.perm {E : Env} {N N' : Nums} {rg rg' : List Rg} {w : World} (h : Sat E N rg w) (hl : N'.length = rg'.length) (σ : Nat → Nat) (hσ : ∀ i j, σ i = σ j → i = j)
    (hm : ∀ (i : Nat) (x : Rg) (p : Num), rg'[i]? = some x → N'[i]? = some p → ∃ x0, rg[σ i]? = some x0 ∧ N[σ i]? = some p ∧ x.own = x0.own ∧ x.cells.length = x0.cells.length ∧ x.ob = none ∧ ∀ (j : Nat) (c : SV), x.cells[j]? = some c → ∃ c0, x0.cells[j]? = some c0 ∧ ∀ v, c0.den N = some v → c.den N' = some v) : Sat E N' rg' w := by
  refine { h with len := hl, lt := ?_, cell := ?_, ext := ?_, room := ?_, disj := ?_, obj := ?_, odisj := ?_, imd := ?_, dd := ?_, foot := ?_ }
  · intro i p hp
    obtain ⟨x, hx⟩ : ∃ x, rg'[i]? = some x := ⟨_, List.getElem?_eq_getElem (by have := (List.getElem?_eq_some_iff.1 hp).1; omega)⟩
    obtain ⟨x0, h1, h2, _⟩ := hm i x p hx hp
    exact h.lt _ _ h2
  · intro i x p hx hp j c hj
    obtain ⟨x0, h1, h2, _, _, _, h6⟩ := hm i x p hx hp
    obtain ⟨c0, h7, h8⟩ := h6 j c hj
    obtain ⟨v, h9, h10⟩ := h.cell _ _ _ h1 h2 j c0 h7
    exact ⟨v, h8 v h9, h10⟩
  · intro i x p hx hp ho
    obtain ⟨x0, h1, h2, h3, h4, _, _⟩ := hm i x p hx hp
    rw [h4]; exact h.ext _ _ _ h1 h2 (by rw [← h3]; exact ho)
  · intro i x p hx hp ho
    obtain ⟨x0, h1, h2, h3, h4, _, _⟩ := hm i x p hx hp
    exact h.room _ _ _ h1 h2 (by rw [← h3]; exact ho)
  · intro i i' x x' p p' hx hp hx' hp' ho hne j hj hb
    obtain ⟨x0, h1, h2, h3, h4, _, _⟩ := hm i x p hx hp
    obtain ⟨x1, k1, k2, k3, k4, _, _⟩ := hm i' x' p' hx' hp'
    exact h.disj _ _ _ _ _ _ h1 h2 k1 k2 (by rw [← h3]; exact ho) (fun e => hne (hσ _ _ e)) j (by unfold Rg.wid at hj ⊢; rw [← k3, ← k4]; exact hj) hb
  · intro i x p ob hx hp ho
    obtain ⟨x0, h1, h2, h3, h4, h5, _⟩ := hm i x p hx hp
    rw [h5] at ho; cases ho
  · intro i i' x x' p p' hx hp hx' hp' ho _ _
    obtain ⟨x0, h1, h2, h3, h4, h5, _⟩ := hm i x p hx hp
    rw [h5] at ho; cases ho
  · intro i x p hx hp ho
    obtain ⟨x0, h1, h2, h3, h4, _, _⟩ := hm i x p hx hp
    exact h.imd _ _ _ h1 h2 (by rw [← h3]; exact ho)
  · intro i x p hx hp ho
    obtain ⟨x0, h1, h2, h3, h4, _, _⟩ := hm i x p hx hp
    exact h.dd _ _ _ h1 h2 (by rw [← h3]; exact ho)
  · intro i x p hx hp ho
    obtain ⟨x0, h1, h2, h3, h4, _, _⟩ := hm i x p hx hp
    exact h.foot _ _ _ h1 h2 (by rw [← h3]; exact ho)

/-- pairs of cells, one by one -/
def CellsTo (N N' : Nums) : List SV → List SV → Prop
  | [], [] => True
  | c0 :: cs0, c :: cs => (∀ v, c0.den N = some v → c.den N' = some v) ∧ CellsTo N N' cs0 cs
  | _, _ => False
theorem CellsTo.get {N N' : Nums} : ∀ {cs0 cs : List SV}, CellsTo N N' cs0 cs → cs.length = cs0.length ∧ ∀ (j : Nat) (c : SV), cs[j]? = some c → ∃ c0, cs0[j]? = some c0 ∧ ∀ v, c0.den N = some v → c.den N' = some v
  | [], [], _ => ⟨rfl, fun j c h => by simp at h⟩
  | c0 :: cs0, c :: cs, ⟨h1, h2⟩ => by
    obtain ⟨k1, k2⟩ := CellsTo.get h2
    refine ⟨by simp [k1], fun j d hd => ?_⟩
    cases j with
    | zero => simp at hd; subst hd; exact ⟨c0, rfl, h1⟩
    | succ j => exact k2 j d (by simpa using hd)
theorem CellsTo.same {N N' : Nums} : ∀ {cs : List SV}, (∀ c ∈ cs, ∀ v, c.den N = some v → c.den N' = some v) → CellsTo N N' cs cs
  | [], _ => trivial
  | c :: cs, h => ⟨h c (by simp), CellsTo.same fun c hc => h c (by simp [hc])⟩

/-- two regions change their places -/
theorem X.flip {E : Ctx} {k : List It} {f f' : Fr} {r0 r1 a b a' b' : Rg} (h0 : E.N0 = []) (hs : ∀ n0 n1 n2 n3 : Num, Sh [n0, n1, n2, n3] [n0, n1, n3, n2] f f') (ho : r0.ob = none ∧ r1.ob = none ∧ a'.ob = none ∧ b'.ob = none) (hown : a'.own = a.own ∧ b'.own = b.own)
    (h1 : ∀ n0 n1 n2 n3 : Num, CellsTo [n0, n1, n2, n3] [n0, n1, n3, n2] r0.cells r0.cells ∧ CellsTo [n0, n1, n2, n3] [n0, n1, n3, n2] r1.cells r1.cells ∧ CellsTo [n0, n1, n2, n3] [n0, n1, n3, n2] a.cells a'.cells ∧ CellsTo [n0, n1, n2, n3] [n0, n1, n3, n2] b.cells b'.cells)
    (h : X E k ⟨f', [r0, r1, b', a']⟩) : X E k ⟨f, [r0, r1, a, b]⟩ := by
  refine X.conv fun N ac w hN hf hS => ?_
  have hl : N.length = 4 := hS.len
  obtain ⟨n0, n1, n2, n3, rfl⟩ : ∃ n0 n1 n2 n3, N = [n0, n1, n2, n3] := by
    match N, hl with
    | [a, b, c, d], _ => exact ⟨a, b, c, d, rfl⟩
  refine ⟨E, ⟨f', [r0, r1, b', a']⟩, rfl, rfl, rfl, rfl, ⟨[n0, n1, n3, n2], by rw [h0]; exact fun r p h => by simp at h, hf.sh (hs n0 n1 n2 n3), ?_⟩, h⟩
  obtain ⟨c0, c1, c2, c3⟩ := h1 n0 n1 n2 n3
  refine hS.perm rfl (fun i => if i = 2 then 3 else if i = 3 then 2 else i) (fun i j e => by (repeat' split at e) <;> omega) fun i x p hx hp => ?_
  match i, hx, hp with
  | 0, hx, hp =>
    simp only [List.getElem?_cons_zero, Option.some.injEq] at hx hp; subst hx; subst hp
    exact ⟨r0, rfl, rfl, rfl, rfl, ho.1, c0.get.2⟩
  | 1, hx, hp =>
    simp only [List.getElem?_cons_succ, List.getElem?_cons_zero, Option.some.injEq] at hx hp; subst hx; subst hp
    exact ⟨r1, rfl, rfl, rfl, rfl, ho.2.1, c1.get.2⟩
  | 2, hx, hp =>
    simp only [List.getElem?_cons_succ, List.getElem?_cons_zero, Option.some.injEq] at hx hp; subst hx; subst hp
    exact ⟨b, rfl, rfl, hown.2, c3.get.1, ho.2.2.2, c3.get.2⟩
  | 3, hx, hp =>
    simp only [List.getElem?_cons_succ, List.getElem?_cons_zero, Option.some.injEq] at hx hp; subst hx; subst hp
    exact ⟨a, rfl, rfl, hown.1, c2.get.1, ho.2.2.1, c2.get.2⟩
  | i + 4, hx, hp => simp at hx

/-- a slice's length, as a number's name -/
theorem vk_lenO {E : Env} {N0 : Nums} {rg : List Rg} {f : Fr} {g : GK} {x : Operand} {ts e r c n z : Nat} {k : Option Nat} (hx : evK f g x = some (.osl r c n z k)) (hr : r < rg.length) (hu : E.P.underlying ts = some (.slice e)) : ValOk E N0 rg f g (.call { callee := .builtin .len, args := #[x], argTypes := #[ts] }) (.int .i64 (.nat n)) := by
  intro ht N ρ op w hN0 hop hρ hV
  have h1 := hρ _ _ hx
  obtain ⟨p, hp⟩ : ∃ p, N[r]? = some p := ⟨_, List.getElem?_eq_getElem (by have := hV.1.len; omega)⟩
  simp only [SV.den, hp, Option.some.injEq] at h1
  refine ⟨.int .i64 n, rfl, fun w' _ => ?_⟩
  have h2 : ∀ a k, (Builtin.len_ #[ts] op.type #[.slice a n k]).run E.P w' = .ok (.int .i64 n) w' := fun a k => by simp [Builtin.len_, run_underlying hu, Result.andThen, goInt]
  simp [execOp, hop, resolve, invoke, builtin, ← h1, h2]

end Go.Eng

namespace Go.Eng
open Go

theorem buildSlice_row {E : Env} {N : Nums} {rg : List Rg} {w : World} {T : Tab} {P : Program} (hT : Tab.ok P T) (h : Sat E N rg w) {t e len : Nat} {ti te : TI} {ps : List (Nat × SV)} {vs : Array (Nat × Value)} {cs : List SV} (ht : lookT T t = some ti) (hk : ti.kind = .slice e) (hte : lookT T e = some te)
    (hb : (Nat.blt 0 te.size && Nat.beq te.zero.length te.size && Nat.ble (len * te.size) 16777216) = true)
    (hv : ∀ (j : Nat) (p : Nat × SV), ps[j]? = some p → ∃ v, p.2.den N = some v ∧ vs.toList[j]? = some (p.1, v)) (hl : vs.toList.length = ps.length) (hf : fillV (fun i => some (i * te.size, te.size)) (rep len te.zero) ps = some cs) :
    ∃ q : Array Value, q.toList.length = cs.length ∧ (Instr.buildSlice t len vs).run P w = .ok (.slice (some ⟨w.heap.size, 0, none⟩) len len) (w.alloc (.cells q e)) ∧ Sat E (N ++ [⟨w.heap.size, 0, cs.length⟩]) (rg ++ [⟨true, cs, none⟩]) (w.alloc (.cells q e)) := by
  simp only [Bool.and_eq_true] at hb
  obtain ⟨⟨b1, b2⟩, b3⟩ := hb
  have b1 : 0 < te.size := by simpa using b1
  have b2 := Nat.eq_of_beq_eq_true b2
  have b3 := Nat.le_of_ble_eq_true b3
  have ok := (hT t ti ht).kind
  rw [hk] at ok
  have ok' : P.underlying t = some (.slice e) := ok
  have oke := hT e te hte
  obtain ⟨z, hz, hzd⟩ := oke.zero
  have hzd' : SV.denL N te.zero = some z.cells.toList := SV.denL_mono (N := []) (N' := N) (fun r p h => by simp at h) _ hzd
  have hzs : z.cells.size = te.size := by have := (SV.denL_get _ hzd').1; simp at this; omega
  obtain ⟨q, hq1, hq2⟩ := fillV_sound ps vs.toList (m := (repV len z.cells.toList).toArray) (by simpa using denL_rep hzd' len) hv hl hf
  have hrun := run_buildSlice (P := P) (w := w) (parts := vs) (q := q) (zero := z) (len := len) ok' (fun w => by rw [hzs]; exact oke.size w) hz (by omega) (by rw [hzs]; exact b3) (by rw [hzs]; exact hq2)
  have hS := h.alloc hq1 e
  have hlen := (SV.denL_get _ hq1).1
  rw [Array.toArray_toList, hlen] at hS
  exact ⟨q, hlen, hrun, hS⟩

/-- a row of one element is laid, and handed to a call -/
theorem X.rowCall {E : Ctx} {T : Tab} (hT : TabOk E.P T) {all : Array Oper} {i j : Nat} {rest : List Nat} {k : List It} {s : St} {oi oj : Oper} {t e d : Nat} {ti te : TI} {y : Operand} {sy : SV} {g : Nat} {xs : Array Operand} {ts : Array TypeId} {l : List SV} {r : SV} {rg' : List Rg} {f1 f2 : Fr} {cs : List SV}
    (hoi : nth all.toList i = some oi) (hgi : oi.guard = none) (hopi : oi.op = .buildSlice t 1 #[(0, y)]) (hy : ev s.fr y = some sy) (ht : lookT T t = some ti) (hk : ti.kind = .slice e) (hte : lookT T e = some te) (hb : (Nat.blt 0 te.size && Nat.beq te.zero.length te.size && Nat.ble (1 * te.size) 16777216) = true)
    (hf : fillV (fun i => some (i * te.size, te.size)) (rep 1 te.zero) [(0, sy)] = some cs) (hdi : oi.dst = some d) (hpi : putO E.n s.fr (some d) (.val (.osl s.rg.length 0 1 te.size (some 1))) = some f1)
    (hoj : nth all.toList j = some oj) (hgj : oj.guard = none) (hopj : oj.op = .call { callee := .value (.func g), args := xs, argTypes := ts }) (hl : evL f1 xs.toList = some l) (hc : ∀ args w, (callFunc g args).run E.P w = .ok (.enter g args) w) (hpj : putO E.n f1 oj.dst (.val r) = some f2)
    (h : ∀ (N : Nums) (w : World) (args : List Value) (b : Nat), E.N0.le N → Sat E.toEnv N (s.rg ++ [⟨true, cs, none⟩]) w → SV.denL N l = some args → N[s.rg.length]? = some ⟨b, 0, cs.length⟩ → (∀ (i : Nat) (p : Num), i < s.rg.length → N[i]? = some p → p.b < b) → w.shape? b = some (e, cs.length) → (∀ o, w.frozen? ⟨b, o, none⟩ = false) → Calls E.P g args.toArray w fun e w' => ∃ v, e = .returned v ∧ ∃ N', N.le N' ∧ r.den N' = some v ∧ Sat E.toEnv N' rg' w')
    (hx : X E (.ops all rest :: k) ⟨f2, rg'⟩) : X E (.ops all (i :: j :: rest) :: k) s := by
  intro N a w hN hfr hS
  show wpOps _ _ _ _ _ _
  have hoi' : all[i]? = some oi := by rw [nth_eq] at hoi; simpa using hoi
  have hoj' : all[j]? = some oj := by rw [nth_eq] at hoj; simpa using hoj
  have hyd := ev_sound hfr hy
  obtain ⟨q, hql, hrun, hS1⟩ := buildSlice_row (P := E.P) (vs := #[(0, a.eval y)]) hT.ok hS ht hk hte hb (fun j p hj => by
    cases j with
    | zero => simp at hj; subst hj; exact ⟨_, hyd, rfl⟩
    | succ j => simp at hj) rfl hf
  rw [wpOps_cons]
  unfold wpOp
  simp only [hoi', Region.wanted, hgi, if_true]
  refine .inl (wp_of_yields (x := .slice (some ⟨w.heap.size, 0, none⟩) 1 1) (w' := w.alloc (.cells q e)) (.inl ?_) ?_)
  · simp [execOp, hopi, hrun]
  have hget : (N ++ [(⟨w.heap.size, 0, cs.length⟩ : Num)])[s.rg.length]? = some ⟨w.heap.size, 0, cs.length⟩ := by rw [← hS.len]; simp
  have hfr1 : FrOk E.n (N ++ [⟨w.heap.size, 0, cs.length⟩]) f1 (a.put oi.dst (.slice (some ⟨w.heap.size, 0, none⟩) 1 1)) := by
    rw [hdi]
    exact putO_sound (hfr.mono (Nums.le_append _ _)) (by simp only [SV.den, hget, Num.cap]) hpi
  have hargs := evL_sound hfr1 _ hl
  rw [wpOps_cons]
  unfold wpOp
  simp only [hoj', Region.wanted, hgj, if_true]
  refine .inl ?_
  have hE : Effs E.P (a.put oi.dst (.slice (some ⟨w.heap.size, 0, none⟩) 1 1)).eval oj (w.alloc (.cells q e)) fun v w' => ∃ N', Nums.le (N ++ [(⟨w.heap.size, 0, cs.length⟩ : Num)]) N' ∧ r.den N' = some v ∧ Sat E.toEnv N' rg' w' := by
    refine .inr ⟨g, (xs.toList.map (a.put oi.dst (.slice (some ⟨w.heap.size, 0, none⟩) 1 1)).eval).toArray, ?_, ?_⟩
    · simp only [execOp, hopj, resolve, Act.eval, Deferred.ofValue, Sem.run_bind, Sem.run_pure, Result.andThen, invoke]
      rw [hc]
      congr 2
      apply Array.ext'
      simp [Act.eval]
    · refine h _ _ _ w.heap.size (hN.trans (Nums.le_append _ _)) hS1 hargs hget (fun i p hi hp => ?_) ?_ (fun o => ?_)
      · rw [List.getElem?_append_left (by rw [hS.len]; exact hi)] at hp
        exact hS.lt i p hp
      · rw [show w.heap.size = w.heap.size from rfl]
        simp only [World.shape?, World.alloc]
        simp at hql ⊢
        exact hql
      · exact World.frozen?_alloc_new _ _ _ _
  exact wp_of_effs hE fun v w' ⟨N', h1, h2, h3⟩ => hx N' _ w' ((hN.trans (Nums.le_append _ _)).trans h1) (putO_sound (hfr1.mono h1) h2 hpj) h3

end Go.Eng
