/- The symbolic executor, part 10: behind a call; a loop's head. -/
import Derived.Test.YtkjhpaeminegoaaEng9

namespace Go.Eng

/-- what is known of memory that nobody writes any more -/
abbrev Mem := Nat → Nat → Option Value

structure Ext (m m' : Mem) (w w' : World) : Prop where
  le : ∀ k o v, m k o = some v → m' k o = some v
  sub : ∀ k o v, m' k o = some v → w'.cell? ⟨k, o, none⟩ = some v
  new : ∀ k o v, m' k o = some v → m k o = some v ∨ w.heap.size ≤ k

theorem frozen_of_chg {O : Nat → Nat → Prop} {w w' : World} (h : Chg O w w') {k : Nat} (o : Nat) (hc : (w.cell? ⟨k, o, none⟩).isSome = true) : w'.frozen? ⟨k, o, none⟩ = w.frozen? ⟨k, o, none⟩ := by
  cases hh : w.heap[k]? with
  | none => simp [World.cell?, hh] at hc
  | some x =>
    cases x with
    | cells c e f =>
      obtain ⟨c', h1, _, _⟩ := h.cells k c e f hh
      simp [World.frozen?, hh, h1]
    | _ => simp [World.cell?, hh] at hc

theorem cell_of_chg {O : Nat → Nat → Prop} {w w' : World} (h : Chg O w w') {k o : Nat} {v : Value} (ho : ¬ O k o) (hc : w.cell? ⟨k, o, none⟩ = some v) : w'.cell? ⟨k, o, none⟩ = some v := by
  cases hh : w.heap[k]? with
  | none => simp [World.cell?, hh] at hc
  | some x =>
    cases x with
    | cells c e f =>
      obtain ⟨c', h1, _, h3⟩ := h.cells k c e f hh
      simp only [World.cell?, hh] at hc
      simp only [World.cell?, h1]
      have := h3 o ho
      simp at hc ⊢
      rw [this]; exact hc
    | _ => simp [World.cell?, hh] at hc

/-- Behind a call: what the call may have written (O') lies in regions of one's own, or in the blocks of D; of the regions it is told what they hold now. -/
theorem Sat.after {E : Env} {N : Nums} {rg rg' : List Rg} {w w' : World} {O' : Nat → Nat → Prop} {m' : Mem} {D' : Nat → Nat → Prop} {R' : World → Prop} (h : Sat E N rg w) (hc : Chg O' w w')
    (hO : ∀ k o, k < w.heap.size → O' k o → InR N rg k o ∨ (E.D k o ∧ (E.W.heap.size ≤ k ∨ E.O k o))) (hm : Ext E.im m' w w') (hD : ∀ k o, D' k o → (E.D k o ∨ w.heap.size ≤ k) ∧ There w' k o) (hl : Loc D' R') (hR : R' w') (hlen : rg'.length = rg.length)
    (hrg : ∀ (r : Nat) (g g' : Rg) (p : Num), rg[r]? = some g → rg'[r]? = some g' → N[r]? = some p → g'.own = g.own ∧ g'.ob = g.ob ∧ (g.own = false → g'.cells.length = g.cells.length) ∧ (g.own = true → g'.cells.length ≤ p.x) ∧
      ((g' = g ∧ ∀ j, j < g.cells.length → ¬ O' p.b (p.o + j)) ∨ ∀ (j : Nat) (c : SV), g'.cells[j]? = some c → ∃ v, c.den N = some v ∧ w'.cell? ⟨p.b, p.o + j, none⟩ = some v)) :
    Sat { E with im := m', D := D', R := R' } N rg' w' := by
  have old : ∀ (r : Nat) (g' : Rg), rg'[r]? = some g' → ∃ g, rg[r]? = some g := fun r g' hg => by
    have : r < rg.length := by rw [← hlen]; exact (List.getElem?_eq_some_iff.1 hg).1
    exact ⟨_, List.getElem?_eq_getElem this⟩
  have there : ∀ k o, (w.cell? ⟨k, o, none⟩).isSome = true → (w'.cell? ⟨k, o, none⟩).isSome = true := by
    intro k o hs
    cases hh : w.heap[k]? with
    | none => simp [World.cell?, hh] at hs
    | some x =>
      cases x with
      | cells c e f =>
        obtain ⟨c', h1, h2, _⟩ := hc.cells k c e f hh
        simp only [World.cell?, hh] at hs
        simp only [World.cell?, h1]
        simp at hs ⊢
        omega
      | _ => simp [World.cell?, hh] at hs
  refine ⟨by rw [hlen]; exact h.len, fun r p hp => Nat.lt_of_lt_of_le (h.lt r p hp) hc.size, ?_, ?_, ?_, ?_, ?_, ?_, hm.sub, ?_, ?_, fun k o hk => (hD k o hk).2, hl, hR, ?_, ?_⟩
  · intro r g' p hg hp j c hj
    obtain ⟨g, hg0⟩ := old r g' hg
    obtain ⟨_, _, _, _, h3 | h3⟩ := hrg r g g' p hg0 hg hp
    · obtain ⟨rfl, hno⟩ := h3
      obtain ⟨v, h1, h2⟩ := h.cell r g' p hg0 hp j c hj
      exact ⟨v, h1, cell_of_chg hc (hno j (List.getElem?_eq_some_iff.1 hj).1) h2⟩
    · exact h3 j c hj
  · intro r g' p hg hp ho
    obtain ⟨g, hg0⟩ := old r g' hg
    obtain ⟨h1, _, _, h4, _⟩ := hrg r g g' p hg0 hg hp
    exact h4 (by rw [← h1]; exact ho)
  · intro r g' p hg hp ho j hj
    obtain ⟨g, hg0⟩ := old r g' hg
    obtain ⟨h1, _⟩ := hrg r g g' p hg0 hg hp
    obtain ⟨k1, k2⟩ := h.room r g p hg0 hp (by rw [← h1]; exact ho) j hj
    exact ⟨there _ _ k1, by rw [frozen_of_chg hc _ k1]; exact k2⟩
  · intro r r' g' g2' p p' hg hp hg' hp' ho hne j hj hb
    obtain ⟨g, hg0⟩ := old r g' hg
    obtain ⟨g2, hg20⟩ := old r' g2' hg'
    obtain ⟨h1, _⟩ := hrg r g g' p hg0 hg hp
    obtain ⟨k1, _, k2, _⟩ := hrg r' g2 g2' p' hg20 hg' hp'
    refine h.disj r r' g g2 p p' hg0 hp hg20 hp' (by rw [← h1]; exact ho) hne j ?_ hb
    unfold Rg.wid at hj ⊢
    rw [k1] at hj
    cases hg2 : g2.own with
    | true => rw [hg2] at hj; exact hj
    | false => rw [hg2] at hj; simp only [cond_false] at hj ⊢; rw [← k2 hg2]; exact hj
  · intro r g' p ob hg hp ho
    obtain ⟨g, hg0⟩ := old r g' hg
    obtain ⟨_, h1, _⟩ := hrg r g g' p hg0 hg hp
    obtain ⟨⟨o, k1, k2⟩, k3⟩ := h.obj r g p ob hg0 hp (by rw [← h1]; exact ho)
    have hlt := h.lt r p hp
    have noc : ∀ off, (w.cell? ⟨p.b, off, none⟩).isSome = true → False := fun off q1 => by
      unfold World.cell? at q1
      simp only [k2] at q1
      cases ob <;> simp only [Ob.den] at k1 <;> split at k1 <;> first | (cases k1; done) | (cases k1; simp at q1)
    refine ⟨⟨o, k1, ?_⟩, k3.1, fun off hd => (hD _ _ hd).1.elim (k3.2 off) (fun h => by omega)⟩
    rw [hc.same p.b hlt (fun off ho => ?_)]
    · exact k2
    · rcases hO p.b off hlt ho with ⟨r', g', p', hg', hp', how, e1, hlo, hhi⟩ | ⟨hd, _⟩
      · obtain ⟨q1, _⟩ := h.room r' g' p' hg' hp' how (off - p'.o) (by omega)
        rw [← e1] at q1
        exact noc _ q1
      · exact k3.2 _ hd
  · intro r r' g' g2' p p' hg hp hg' hp' ho ho' hne
    obtain ⟨g, hg0⟩ := old r g' hg
    obtain ⟨g2, hg20⟩ := old r' g2' hg'
    obtain ⟨_, h1, _⟩ := hrg r g g' p hg0 hg hp
    obtain ⟨_, k1, _⟩ := hrg r' g2 g2' p' hg20 hg' hp'
    exact h.odisj r r' g g2 p p' hg0 hp hg20 hp' (by rw [← h1]; exact ho) (by rw [← k1]; exact ho') hne
  · intro r g' p hg hp ho j hj
    obtain ⟨g, hg0⟩ := old r g' hg
    obtain ⟨h1, _⟩ := hrg r g g' p hg0 hg hp
    have := h.imd r g p hg0 hp (by rw [← h1]; exact ho) j hj
    show m' p.b (p.o + j) = none
    cases hmv : m' p.b (p.o + j) with
    | none => rfl
    | some v =>
      rcases hm.new _ _ _ hmv with h5 | h5
      · rw [this] at h5; cases h5
      · have := h.lt r p hp; omega
  · intro r g' p hg hp ho j hj hd
    obtain ⟨g, hg0⟩ := old r g' hg
    obtain ⟨h1, _⟩ := hrg r g g' p hg0 hg hp
    rcases (hD _ _ hd).1 with hd | hd
    · exact h.dd r g p hg0 hp (by rw [← h1]; exact ho) j hj hd
    · have := h.lt r p hp; omega
  · -- what has turned since the call began
    have hO2 : ∀ k o, k < E.W.heap.size → O' k o → E.O k o := by
      intro k o hk ho
      rcases hO k o (Nat.lt_of_lt_of_le hk h.chg.size) ho with ⟨r, g, p, hg, hp, how, rfl, hlo, hhi⟩ | ⟨_, hd⟩
      · rcases h.foot r g p hg hp how with hf | hf
        · omega
        · have := hf (o - p.o) (by omega)
          rwa [show p.o + (o - p.o) = o by omega] at this
      · rcases hd with hd | hd
        · omega
        · exact hd
    exact h.chg.trans hc hO2
  · intro r g' p hg hp ho
    obtain ⟨g, hg0⟩ := old r g' hg
    obtain ⟨h1, _⟩ := hrg r g g' p hg0 hg hp
    exact h.foot r g p hg0 hp (by rw [← h1]; exact ho)

theorem same_none {w w' : World} (hc : Chg (fun _ _ => False) w w') {k : Nat} (hk : k < w.heap.size) (o : Nat) : w'.cell? ⟨k, o, none⟩ = w.cell? ⟨k, o, none⟩ ∧ w'.frozen? ⟨k, o, none⟩ = w.frozen? ⟨k, o, none⟩ := by
  have e := hc.same k hk (fun _ h => h)
  exact ⟨by unfold World.cell?; simp only [e], by unfold World.frozen?; simp only [e]⟩

theorem There.none {w w' : World} (hc : Chg (fun _ _ => False) w w') {k o : Nat} (h : There w k o) : There w' k o :=
  h.of (fun hs => by rw [(same_none hc h.lt o).1]; exact hs) (objAt_same (hc.same k h.lt (fun _ h => h)))

/-- .. where it wrote nothing that was there -/
theorem Sat.after0 {E : Env} {N : Nums} {rg : List Rg} {w w' : World} (h : Sat E N rg w) (hc : Chg (fun _ _ => False) w w') : Sat E N rg w' := by
  have := h.after (rg' := rg) (m' := E.im) (D' := E.D) (R' := E.R) hc (fun _ _ _ ho => ho.elim) ⟨fun _ _ _ h => h, fun k o v hv => cell_of_chg hc (by simp) (h.imm k o v hv), fun _ _ _ h => .inl h⟩
    (fun k o hk => ⟨.inl hk, There.none hc (h.dlt k o hk)⟩) h.loc
    (h.loc w w' (fun k o hk => ⟨same_none hc (h.dlt k o hk).lt o, objAt_same (hc.same k (h.dlt k o hk).lt (fun _ h => h))⟩) hc.size h.res) rfl (fun r g g' p hg hg' hp => by
      rw [hg] at hg'; cases hg'
      exact ⟨rfl, rfl, fun _ => rfl, fun ho => h.ext r g p hg hp ho, .inl ⟨rfl, fun _ _ ho => ho⟩⟩)
  exact this

section
variable {E : Ctx} {N : Nums} {k : List It} {s : St} {d : Option Nat} {v : Value} {w w' : World}

theorem Goes.same (hN : E.N0.le N) (h : Sat E.toEnv N s.rg w) (hc : Chg (fun _ _ => False) w w') {r : SV} (hr : r.den N = some v) {f' : Fr} (hp : putO E.n s.fr d (.val r) = some f') (hx : X E k ⟨f', s.rg⟩) : Goes E N k s.fr d v w' :=
  ⟨E, N, r, s.rg, f', rfl, rfl, rfl, rfl, Nums.le.refl N, hN, h.after0 hc, hr, hp, hx⟩

end

/-- a call that writes nothing which was there, and hands back a value that is told ahead -/
theorem X.call0 {E : Ctx} {all : Array Oper} {i : Nat} {rest : List Nat} {k : List It} {s : St} {o : Oper} {g : FuncId} {xs : Array Operand} {ts : Array TypeId} {l : List SV} (r : SV) {f' : Fr} (ho : nth all.toList i = some o) (hg : o.guard = none)
    (hop : o.op = .call { callee := .value (.func g), args := xs, argTypes := ts }) (hl : evL s.fr xs.toList = some l) (hb : ∀ args w, (callFunc g args).run E.P w = .ok (.enter g args) w) (hp : putO E.n s.fr o.dst (.val r) = some f')
    (h : ∀ (N : Nums) (w : World) (args : List Value), E.N0.le N → Sat E.toEnv N s.rg w → SV.denL N l = some args → Calls E.P g args.toArray w fun e w' => ∃ v, e = .returned v ∧ r.den N = some v ∧ Chg (fun _ _ => False) w w')
    (hx : X E (.ops all rest :: k) ⟨f', s.rg⟩) : X E (.ops all (i :: rest) :: k) s :=
  X.call ho hg hop hl hb fun N w args hN hS ha => (h N w args hN hS ha).mono fun _ _ ⟨v, he, hr, hc⟩ => ⟨v, he, Goes.same hN hS hc hr hp hx⟩

/-! ### a loop's head -/
def bd (m : Nat) : SV → Bool
  | .int _ _ => true
  | .bool _ => true
  | .own r _ => Nat.blt r m
  | .osl r _ _ _ _ => Nat.blt r m
  | .mp r => Nat.blt r m
  | .ch r => Nat.blt r m
  | .ext _ _ _ => true
  | .sl _ _ _ _ => true
  | .slv _ _ _ => true
  | .raw _ => true
  | .big _ => true
  | _ => false

theorem den_take {N : Nums} {m : Nat} {s : SV} {x : Value} (hb : bd m s = true) (h : s.den N = some x) : s.den (N.take m) = some x := by
  have key : ∀ r, Nat.blt r m = true → (N.take m)[r]? = N[r]? := fun r hb => by
    have hr : r < m := Nat.le_of_ble_eq_true hb
    rw [List.getElem?_take, if_pos hr]
  cases s <;> simp only [bd, Bool.false_eq_true] at hb <;> first | exact h | (simp only [SV.den] at h ⊢; rw [key _ hb]; exact h)

/-- an entry of the new frame is one of the old, or means the same -/
def SubE (N N' : Nums) (m : Nat) (old new : SV) : Prop := (new = old ∧ bd m new = true) ∨ ∃ x, old.den N = some x ∧ new.den N' = some x

def SubFr (N N' : Nums) (m : Nat) (f : Fr) : Fr → Prop
  | [] => True
  | (t, .val v') :: r => (∃ v, look f t = .val v ∧ SubE N N' m v v') ∧ SubFr N N' m f r
  | (_, .dead) :: r => SubFr N N' m f r
  | (_, .opt _ _ _) :: _ => False

theorem SubFr.look {N N' : Nums} {m : Nat} {f : Fr} : ∀ {f' : Fr}, SubFr N N' m f f' → ∀ t, look f' t = .dead ∨ ∃ v v', look f' t = .val v' ∧ Eng.look f t = .val v ∧ SubE N N' m v v'
  | [], _, t => .inl rfl
  | (k, .val v') :: r, ⟨⟨v, h1, h2⟩, h3⟩, t => by
    simp only [Eng.look]
    by_cases hk : k = t
    · subst hk; simp only [Nat.beq_refl, cond_true]; exact .inr ⟨v, v', rfl, h1, h2⟩
    · simp only [beq_ne hk, cond_false]; exact SubFr.look h3 t
  | (k, .dead) :: r, h, t => by
    simp only [Eng.look]
    by_cases hk : k = t
    · subst hk; simp
    · simp only [beq_ne hk, cond_false]; exact SubFr.look (f' := r) h t
  | (k, .opt _ _ _) :: r, h, t => h.elim

theorem FrOk.sub {n m : Nat} {N : Nums} {f f' : Fr} {a : Act} (h : FrOk n N f a) (hs : SubFr N (N.take m) m f f') : FrOk n (N.take m) f' a := by
  refine ⟨h.size, h.defers, fun t => ?_⟩
  rcases hs.look t with hd | ⟨v, v', h1, h2, h3⟩
  · rw [hd]; trivial
  · have hok := h.ok t
    rw [h2] at hok
    obtain ⟨x, k1, k2⟩ := hok
    rw [h1]
    rcases h3 with ⟨rfl, hb⟩ | ⟨y, q1, q2⟩
    · exact ⟨x, den_take hb k1, k2⟩
    · rw [q1] at k1; cases k1; exact ⟨x, q2, k2⟩

def SubC (N N' : Nums) (m : Nat) : List SV → List SV → Prop
  | [], [] => True
  | c :: cs, c' :: cs' => SubE N N' m c c' ∧ SubC N N' m cs cs'
  | _ :: _, [] => True
  | [], _ :: _ => False

theorem SubC.get {N N' : Nums} {m : Nat} : ∀ {cs cs' : List SV}, SubC N N' m cs cs' → cs'.length ≤ cs.length ∧ ∀ (j : Nat) (c' : SV), cs'[j]? = some c' → ∃ c, cs[j]? = some c ∧ SubE N N' m c c'
  | [], [], _ => ⟨Nat.le_refl _, fun j c' h => by simp at h⟩
  | c :: cs, c' :: cs', ⟨h1, h2⟩ => by
    obtain ⟨k1, k2⟩ := SubC.get h2
    refine ⟨by simp; exact k1, fun j d hj => ?_⟩
    cases j with
    | zero => simp at hj; subst hj; exact ⟨c, rfl, h1⟩
    | succ j => simpa using k2 j d (by simpa using hj)
  | [], _ :: _, h => h.elim
  | _ :: _, [], _ => ⟨by simp, fun j c' h => by simp at h⟩

theorem SubC.refl {N N' : Nums} {m : Nat} : ∀ {cs : List SV}, cs.all (bd m) = true → SubC N N' m cs cs
  | [], _ => trivial
  | c :: cs, h => by
    simp only [List.all_cons, Bool.and_eq_true] at h
    exact ⟨.inl ⟨rfl, h.1⟩, SubC.refl h.2⟩

def SubRg (N N' : Nums) (m : Nat) : List Rg → List Rg → Prop
  | _, [] => True
  | g :: r, g' :: r' => (g'.own = true → g.own = true) ∧ SubC N N' m g.cells g'.cells ∧ g'.ob = none ∧ SubRg N N' m r r'
  | [], _ :: _ => False

theorem SubRg.get {N N' : Nums} {m : Nat} : ∀ {rg rg' : List Rg}, SubRg N N' m rg rg' → rg'.length ≤ rg.length ∧ ∀ (r : Nat) (g' : Rg), rg'[r]? = some g' → ∃ g, rg[r]? = some g ∧ (g'.own = true → g.own = true) ∧ SubC N N' m g.cells g'.cells ∧ g'.ob = none
  | _, [], _ => ⟨by simp, fun r g' h => by simp at h⟩
  | g :: rg, g' :: rg', ⟨h1, h2, h4, h3⟩ => by
    obtain ⟨k1, k2⟩ := SubRg.get h3
    refine ⟨by simp; exact k1, fun r x hx => ?_⟩
    cases r with
    | zero => simp at hx; subst hx; exact ⟨g, rfl, h1, h2, h4⟩
    | succ r => simpa using k2 r x (by simpa using hx)
  | [], _ :: _, h => h.elim

/-- From a state to one that says less of it (a loop's head): its regions are the first of the old ones. -/
theorem Sat.sub {E : Env} {N : Nums} {rg rg' : List Rg} {w : World} {m' : Mem} {R' : World → Prop} (h : Sat E N rg w) (hs : SubRg N (N.take rg'.length) rg'.length rg rg')
    (hm : ∀ k o v, m' k o = some v → E.im k o = some v) (hl : Loc E.D R') (hR : R' w) : Sat { E with im := m', R := R' } (N.take rg'.length) rg' w := by
  obtain ⟨hle, hget⟩ := hs.get
  have num : ∀ (r : Nat) (p : Num), (N.take rg'.length)[r]? = some p → N[r]? = some p := fun r p hp => by
    rw [List.getElem?_take] at hp
    split at hp
    · exact hp
    · cases hp
  refine ⟨by have := h.len; simp; omega, fun r p hp => h.lt r p (num r p hp), ?_, ?_, ?_, ?_, ?_, ?_, fun k o v hv => h.imm k o v (hm k o v hv), ?_, ?_, h.dlt, hl, hR, h.chg, ?_⟩
  · intro r g' p hg hp j c' hj
    obtain ⟨g, h1, h2, h3, _⟩ := hget r g' hg
    obtain ⟨c, k1, k2⟩ := h3.get.2 j c' hj
    obtain ⟨v, q1, q2⟩ := h.cell r g p h1 (num r p hp) j c k1
    rcases k2 with ⟨rfl, hb⟩ | ⟨x, x1, x2⟩
    · exact ⟨v, den_take hb q1, q2⟩
    · rw [x1] at q1; cases q1; exact ⟨_, x2, q2⟩
  · intro r g' p hg hp ho
    obtain ⟨g, h1, h2, h3, _⟩ := hget r g' hg
    exact Nat.le_trans h3.get.1 (h.ext r g p h1 (num r p hp) (h2 ho))
  · intro r g' p hg hp ho
    obtain ⟨g, h1, h2, h3, _⟩ := hget r g' hg
    exact h.room r g p h1 (num r p hp) (h2 ho)
  · intro r r' g' g2' p p' hg hp hg' hp' ho hne j hj hb
    obtain ⟨g, h1, h2, h3, _⟩ := hget r g' hg
    obtain ⟨g2, k1, k2, k3, _⟩ := hget r' g2' hg'
    refine h.disj r r' g g2 p p' h1 (num r p hp) k1 (num r' p' hp') (h2 ho) hne j ?_ hb
    unfold Rg.wid at hj ⊢
    have k4 := k3.get.1
    cases ho2 : g2.own with
    | true =>
      have k5 := h.ext r' g2 p' k1 (num r' p' hp') ho2
      simp only [cond_true]
      cases ho3 : g2'.own with
      | true => rw [ho3] at hj; exact hj
      | false => rw [ho3] at hj; simp only [cond_false] at hj; omega
    | false =>
      have : g2'.own = false := by
        cases ho3 : g2'.own with
        | true => rw [k2 ho3] at ho2; cases ho2
        | false => rfl
      rw [this] at hj; simp only [cond_false] at hj ⊢; omega
  · intro r g' p ob hg hp ho
    obtain ⟨g, h1, h2, h3, h4⟩ := hget r g' hg
    rw [h4] at ho; cases ho
  · intro r r' g' g2' p p' hg hp hg' hp' ho
    obtain ⟨g, h1, h2, h3, h4⟩ := hget r g' hg
    rw [h4] at ho; cases ho
  · intro r g' p hg hp ho j hj
    obtain ⟨g, h1, h2, h3, _⟩ := hget r g' hg
    have := h.imd r g p h1 (num r p hp) (h2 ho) j hj
    show m' p.b (p.o + j) = none
    cases hv : m' p.b (p.o + j) with
    | none => rfl
    | some v => rw [hm _ _ _ hv] at this; cases this
  · intro r g' p hg hp ho
    obtain ⟨g, h1, h2, h3, _⟩ := hget r g' hg
    exact h.dd r g p h1 (num r p hp) (h2 ho)
  · intro r g' p hg hp ho
    obtain ⟨g, h1, h2, h3, _⟩ := hget r g' hg
    exact h.foot r g p h1 (num r p hp) (h2 ho)

theorem At.mk {P : Program} {fn : Func} {R : Ending → World → Prop} {W : World} {O : Nat → Nat → Prop} {im m' : Mem} {D : Nat → Nat → Prop} {Rr R' : World → Prop} {N0 N : Nums} {B : SchT} {s s' : St} {a : Act} {w : World} (hN : N0.le N)
    (hf : FrOk fn.ntmps N s.fr a) (hS : Sat (mkE P fn R W O im D Rr N0 B).toEnv N s.rg w) (hl : N0.length ≤ s'.rg.length) (h1 : SubFr N (N.take s'.rg.length) s'.rg.length s.fr s'.fr) (h2 : SubRg N (N.take s'.rg.length) s'.rg.length s.rg s'.rg)
    (hm : ∀ k o v, m' k o = some v → im k o = some v) (hlo : Loc D R') (hR : R' w) : At (mkE P fn R W O m' D R' N0 B) s' a w := by
  refine ⟨N.take s'.rg.length, fun r p hp => ?_, hf.sub h1, hS.sub h2 hm hlo hR⟩
  have hr : r < N0.length := (List.getElem?_eq_some_iff.1 hp).1
  rw [List.getElem?_take, if_pos (by omega)]
  exact hN r p hp

theorem At.same {P : Program} {fn : Func} {R : Ending → World → Prop} {W : World} {O : Nat → Nat → Prop} {im : Mem} {D : Nat → Nat → Prop} {Rr : World → Prop} {N0 N : Nums} {B : SchT} {s s' : St} {a : Act} {w : World} (hN : N0.le N)
    (hf : FrOk fn.ntmps N s.fr a) (hS : Sat (mkE P fn R W O im D Rr N0 B).toEnv N s.rg w) (hl : N0.length ≤ s'.rg.length) (h1 : SubFr N (N.take s'.rg.length) s'.rg.length s.fr s'.fr) (h2 : SubRg N (N.take s'.rg.length) s'.rg.length s.rg s'.rg) :
    At (mkE P fn R W O im D Rr N0 B) s' a w := At.mk hN hf hS hl h1 h2 (fun _ _ _ h => h) hS.loc hS.res

/-- a loop whose rounds all go in the environment at hand -/
theorem X.loop1 {E : Ctx} {ι : Type} (S : ι → St) (μ : ι → Nat) {c : Code} {k : List It} {s : St} 
    (h0 : ∀ (N : Nums) (a : Act) (w : World), E.N0.le N → FrOk E.n N s.fr a → Sat E.toEnv N s.rg w → ∃ i, At E (S i) a w)
    (round : ∀ i (q : Act → World → Prop), (∀ i' a w, μ i' < μ i → At E (S i') a w → q a w) → X E (.code c :: .lp q :: k) (S i)) : X E (.code (.loop c) :: k) s :=
  X.loop (fun _ => E) S μ (fun _ => ⟨rfl, rfl, rfl, rfl⟩) h0 round

end Go.Eng
