/- The symbolic executor, part 22: objects of which an assertion tells (maps, channels); a lone goroutine's sends and receives. -/
import Derived.Test.YtkjhpaeminegoaaEng21
import Derived.MapKept
import Derived.Conc.LoneCalls

namespace Go.Eng
open Go.MapKept

/-! ### objects -/
def notCells : Obj → Prop
  | .cells _ _ _ => False
  | _ => True

/-- an object put where one lies -/
def putOb (w : World) (b : Nat) (x : Obj) : World := { w with heap := w.heap.setIfInBounds b x }

theorem objAt_lt {w : World} {b : Nat} (h : (objAt w b).isSome = true) : b < w.heap.size := by
  obtain ⟨x, hx⟩ := Option.isSome_iff_exists.1 h
  exact (Array.getElem?_eq_some_iff.1 (heap_objAt hx)).1

theorem heap_put_same {w : World} {b : Nat} {x : Obj} (h : b < w.heap.size) : (putOb w b x).heap[b]? = some x := by simp [putOb, h]
theorem heap_put_ne {w : World} {b k : Nat} {x : Obj} (h : k ≠ b) : (putOb w b x).heap[k]? = w.heap[k]? := by
  simp only [putOb]; rw [Array.getElem?_setIfInBounds_ne (fun e => h e.symm)]
theorem size_put {w : World} {b : Nat} {x : Obj} : (putOb w b x).heap.size = w.heap.size := by simp [putOb]

theorem objAt_of {w : World} {k : Nat} {x : Obj} (h : w.heap[k]? = some x) (hn : notCells x) : objAt w k = some x :=
  objAt_some h (fun c e f e' => by subst e'; exact hn)

theorem objAt_put_same {w : World} {b : Nat} {x : Obj} (h : b < w.heap.size) (hn : notCells x) : objAt (putOb w b x) b = some x := objAt_of (heap_put_same h) hn
theorem objAt_put_ne {w : World} {b k : Nat} {x : Obj} (h : k ≠ b) : objAt (putOb w b x) k = objAt w k := objAt_same (heap_put_ne h)

theorem cell_obj {w : World} {b o : Nat} {x : Obj} (h : objAt w b = some x) : w.cell? ⟨b, o, none⟩ = none := by
  unfold objAt at h
  unfold World.cell?
  split at h
  · cases h
  · simp only [h]
    cases x with
    | cells c e f => rename_i hn; exact absurd h (fun h' => hn c e f h')
    | _ => rfl

theorem cell_put {w : World} {b : Nat} {x : Obj} (h : (objAt w b).isSome = true) (hn : notCells x) (k o : Nat) : (putOb w b x).cell? ⟨k, o, none⟩ = w.cell? ⟨k, o, none⟩ := by
  by_cases e : k = b
  · subst e
    obtain ⟨y, hy⟩ := Option.isSome_iff_exists.1 h
    rw [cell_obj (objAt_put_same (objAt_lt h) hn), cell_obj hy]
  · unfold World.cell?; simp only [heap_put_ne e]

theorem frozen_obj {w : World} {b o : Nat} {x : Obj} (h : objAt w b = some x) : w.frozen? ⟨b, o, none⟩ = false := by
  unfold objAt at h
  unfold World.frozen?
  split at h
  · cases h
  · simp only [h]
    cases x with
    | cells c e f => rename_i hn; exact absurd h (fun h' => hn c e f h')
    | _ => rfl

theorem frozen_put {w : World} {b : Nat} {x : Obj} (h : (objAt w b).isSome = true) (hn : notCells x) (k o : Nat) : (putOb w b x).frozen? ⟨k, o, none⟩ = w.frozen? ⟨k, o, none⟩ := by
  by_cases e : k = b
  · subst e
    obtain ⟨y, hy⟩ := Option.isSome_iff_exists.1 h
    rw [frozen_obj (objAt_put_same (objAt_lt h) hn), frozen_obj hy]
  · unfold World.frozen?; simp only [heap_put_ne e]

theorem There.put {w : World} {b : Nat} {x : Obj} (h : (objAt w b).isSome = true) (hn : notCells x) {k o : Nat} (ht : There w k o) : There (putOb w b x) k o := by
  rcases ht with ht | ht
  · exact .inl (by rw [cell_put h hn]; exact ht)
  · right
    by_cases e : k = b
    · subst e; rw [objAt_put_same (objAt_lt h) hn]; rfl
    · rw [objAt_put_ne e]; exact ht

theorem Chg.put {O : Nat → Nat → Prop} {w : World} {b : Nat} {x : Obj} (h : (objAt w b).isSome = true) (ho : ∃ o, O b o) : Chg O w (putOb w b x) := by
  refine ⟨rfl, rfl, rfl, by rw [size_put]; exact Nat.le_refl _, fun k hk hn => ?_, fun k c e f hc => ?_⟩
  · refine heap_put_ne (fun e => ?_)
    subst e
    obtain ⟨o, ho⟩ := ho
    exact hn o ho
  · have hne : k ≠ b := fun e' => by
      subst e'
      unfold objAt at h
      rw [hc] at h; cases h
    exact ⟨c, by rw [heap_put_ne hne]; exact hc, rfl, fun _ _ => rfl⟩

theorem alloc_heap (w : World) (x : Obj) : (w.alloc x).heap = w.heap.push x := rfl

theorem objAt_new (w : World) (x : Obj) (hn : notCells x) : objAt (w.alloc x) w.heap.size = some x := objAt_of (by rw [alloc_heap]; simp) hn

theorem objAt_chg {O : Nat → Nat → Prop} {w w' : World} (h : Chg O w w') {k : Nat} (hk : (objAt w k).isSome = true) (ho : ∀ o, ¬ O k o) : objAt w' k = objAt w k :=
  objAt_same (h.same k (objAt_lt hk) ho)

/-! ### operations on objects of which the assertion tells -/
section
variable {E : Ctx} {T : Tab} {all : Array Oper} {i : Nat} {rest : List Nat} {k : List It} {s : St} {o : Oper} {f : Fr}

/-- an object is replaced -/
theorem Sat.putR {N : Nums} {rg : List Rg} {w : World} {b : Nat} {x : Obj} {R' : World → Prop} (h : Sat E.toEnv N rg w) (hb : (objAt w b).isSome = true) (hn : notCells x) (hD : ∃ o, E.D b o) (hO : ∀ k o, E.D k o → E.W.heap.size ≤ k ∨ E.O k o) (him : ∀ k o, E.D k o → E.im k o = none)
    (hrg : ∀ g ∈ rg, g.own = true ∨ g.cells = []) (hl : Loc E.D R') (hR : R' (putOb w b x)) : Sat (E.withR R').toEnv N rg (putOb w b x) :=
  h.turn (Chg.put hb hD) hO him hrg (fun _ _ hk => ⟨.inl hk, There.put hb hn (h.dlt _ _ hk)⟩) hl hR

theorem X.putR (R' : World → Prop) (b : Nat) (r : SV) (ho : nth all.toList i = some o) (hg : o.guard = none) (hD : ∃ o, E.D b o) (hO : ∀ k o, E.D k o → E.W.heap.size ≤ k ∨ E.O k o) (him : ∀ k o, E.D k o → E.im k o = none) (hrg : ∀ g ∈ s.rg, g.own = true ∨ g.cells = []) (hl : Loc E.D R')
    (hex : ∀ N a w, E.N0.le N → FrOk E.n N s.fr a → Sat E.toEnv N s.rg w → ∃ x v, (execOp a.eval o).run E.P w = .ok (.value v) (putOb w b x) ∧ r.den N = some v ∧ (objAt w b).isSome = true ∧ notCells x ∧ R' (putOb w b x))
    (hp : putO E.n s.fr o.dst (.val r) = some f) (hk : X (E.withR R') (.ops all rest :: k) ⟨f, s.rg⟩) : X E (.ops all (i :: rest) :: k) s := by
  refine X.oper ho hg fun N a w hN hfr hS => ?_
  obtain ⟨x, v, h1, hv, h2, h3, h4⟩ := hex N a w hN hfr hS
  unfold Oper.wp
  rw [h1]
  exact hk N _ _ hN (putO_sound hfr hv hp) (hS.putR h2 h3 hD hO him hrg hl h4)

/-- .. by an operation that yields nothing -/
theorem X.putR0 (R' : World → Prop) (b : Nat) (ho : nth all.toList i = some o) (hg : o.guard = none) (hD : ∃ o, E.D b o) (hO : ∀ k o, E.D k o → E.W.heap.size ≤ k ∨ E.O k o) (him : ∀ k o, E.D k o → E.im k o = none) (hrg : ∀ g ∈ s.rg, g.own = true ∨ g.cells = []) (hl : Loc E.D R')
    (hex : ∀ N a w, E.N0.le N → FrOk E.n N s.fr a → Sat E.toEnv N s.rg w → ∃ x, (execOp a.eval o).run E.P w = .ok .skip (putOb w b x) ∧ (objAt w b).isSome = true ∧ notCells x ∧ R' (putOb w b x))
    (hp : putO E.n s.fr o.dst (.val (.tup [])) = some f) (hk : X (E.withR R') (.ops all rest :: k) ⟨f, s.rg⟩) : X E (.ops all (i :: rest) :: k) s := by
  refine X.oper ho hg fun N a w hN hfr hS => ?_
  obtain ⟨x, h1, h2, h3, h4⟩ := hex N a w hN hfr hS
  unfold Oper.wp
  rw [h1]
  exact hk N _ _ hN (putO_sound (x := undef) hfr rfl hp) (hS.putR h2 h3 hD hO him hrg hl h4)

/-- a new object, of which the assertion tells from now on -/
theorem X.newR (x : Obj) (hn : notCells x) (mk : Nat → Value) (hmk : ∀ b, one? (mk b) = true) (ho : nth all.toList i = some o) (hg : o.guard = none)
    (hex : ∀ N a w, E.N0.le N → FrOk E.n N s.fr a → Sat E.toEnv N s.rg w → (execOp a.eval o).run E.P w = .ok (.value (mk w.heap.size)) (w.alloc x)) {F : Nat → Fr} (hp : ∀ b, putO E.n s.fr o.dst (.val (.raw (mk b))) = some (F b))
    (hk : ∀ b, E.W.heap.size ≤ b → (∀ o, E.im b o = none) → (∀ o, ¬ E.D b o) → X (E.withDR (fun k o => E.D k o ∨ k = b) (fun w => E.R w ∧ objAt w b = some x)) (.ops all rest :: k) ⟨F b, s.rg⟩) : X E (.ops all (i :: rest) :: k) s := by
  refine X.oper ho hg fun N a w hN hfr hS => ?_
  unfold Oper.wp
  rw [hex N a w hN hfr hS]
  have hnim : ∀ o, E.im w.heap.size o = none := fun o => by
    cases hi : E.im w.heap.size o with
    | none => rfl
    | some v => have := World.block_lt_of_cell? _ _ (hS.imm _ _ _ hi); simp at this
  have hnd : ∀ o, ¬ E.D w.heap.size o := fun o hd => Nat.lt_irrefl _ (hS.dlt _ _ hd).lt
  have hA := hS.allocW x ⟨false, [], none⟩ 0 (fun j c hj => by simp at hj) (fun h => by cases h) (fun h => by cases h) (fun ob h => by cases h)
  have hle : N.le (N ++ [⟨w.heap.size, 0, 0⟩]) := Nums.le_append _ _
  have hS' : Sat (E.withDR (fun k o => E.D k o ∨ k = w.heap.size) (fun w' => E.R w' ∧ objAt w' w.heap.size = some x)).toEnv N s.rg (w.alloc x) := by
    have hc : Chg (fun _ _ => False) w (w.alloc x) := (Chg.refl _ w).alloc x
    have h0 := hS.after0 hc
    refine { h0 with dd := ?_, dlt := ?_, obj := ?_, loc := ?_, res := ⟨h0.res, objAt_new w x hn⟩ }
    · intro r g p ob hr hp hob
      obtain ⟨k1, k2, k3⟩ := h0.obj r g p ob hr hp hob
      refine ⟨k1, k2, fun o hd => hd.elim (k3 o) (fun e => ?_)⟩
      have := hS.lt r p hp
      omega
    · intro r g p hr hp hown j hj hd
      rcases hd with hd | e
      · exact h0.dd r g p hr hp hown j hj hd
      · have := hS.lt r p hp
        omega
    · intro k o hd
      rcases hd with hd | rfl
      · exact h0.dlt k o hd
      · exact .inr (by rw [objAt_new w x hn]; rfl)
    · intro w1 w2 hs hle ⟨h1, h2⟩
      exact ⟨hS.loc w1 w2 (fun k o hd => hs k o (.inl hd)) hle h1, by rw [(hs w.heap.size 0 (.inr rfl)).2]; exact h2⟩
  exact hk w.heap.size hS.chg.size hnim hnd N _ _ hN (putO_sound hfr (by simp [SV.den, hmk]) (hp _)) hS'

/-! ### a lone goroutine's sends and receives -/
def opsS (P : Program) (ops : Array Oper) (Q : Exit → Act → World → Prop) (l : List Nat) (a : Act) (w : World) : Prop :=
  ∀ (b : Frame) (k : List Item) (cs : List Frame), ∃ e a' w', Q e a' w' ∧ Arrives P (lone (b.at a (.inRegion ops l :: k)) cs w) b k cs e a' w'

theorem opsS.of {P : Program} {ops : Array Oper} {Q : Exit → Act → World → Prop} {l : List Nat} {a : Act} {w : World} (h : wpOps P ops Q l a w) : opsS P ops Q l a w := wp_ops l a w h

theorem opsS.region {P : Program} {ops : Array Oper} {Q : Exit → Act → World → Prop} {id : Nat} {a : Act} {w : World} (h : opsS P ops Q (List.range ops.size) a w) : (Code.region id ops false).wp P Q a w :=
  fun b k cs => let ⟨e, a', w', q, r⟩ := h b k cs; ⟨e, a', w', q, .of_steps (.one step_region) r⟩

theorem wanted_none {o : Oper} {ops : Array Oper} {t : Array Value} (hg : o.guard = none) : Region.wanted o (yielded ops t) = true := by simp [Region.wanted, hg]

theorem opsS.value {P : Program} {ops : Array Oper} {Q : Exit → Act → World → Prop} {i : Nat} {rest : List Nat} {o : Oper} {a : Act} {w w' : World} {v : Value} (ho : ops[i]? = some o) (hg : o.guard = none) (hr : (execOp a.eval o).run P w = .ok (.value v) w')
    (h : opsS P ops Q rest (a.put o.dst v) w') : opsS P ops Q (i :: rest) a w := by
  intro b k cs
  obtain ⟨e, a', w'', hq, harr⟩ := h b k cs
  refine ⟨e, a', w'', hq, .of_steps (.one (step_lone_go ?_)) harr⟩
  have hs := stepG_op (P := P) (b := b) (k := k) (cs := cs) (w := w) (rest := rest) ho (wanted_none (t := a.tmps) hg)
  have hfin : (b.at a (.inRegion ops (i :: rest) :: k)).finish v = b.at (a.put o.dst v) (.inRegion ops rest :: k) := by
    rw [Frame.finish_at, ho]; rfl
  rw [hs, ← hfin]
  simp [stepG.apply, hr]

/-- a communication is handed up -/
theorem comm_up {P : Program} {ops : Array Oper} {i : Nat} {rest : List Nat} {o : Oper} {a : Act} {w w' : World} {cases : Array CommCase} {shape : CommShape} (ho : ops[i]? = some o) (hg : o.guard = none) (hr : (execOp a.eval o).run P w = .ok (.comm cases true shape) w') (b : Frame) (k : List Item) (cs : List Frame) :
    ∃ es, stepG P true (Conc.G (b.at a (.inRegion ops (i :: rest) :: k)) cs) w = .comm (Conc.G (b.at a (.inRegion ops (i :: rest) :: k)) cs) cases true shape w' es := by
  have hs := stepG_op (P := P) (b := b) (k := k) (cs := cs) (w := w) (rest := rest) ho (wanted_none (t := a.tmps) hg)
  have hs' : stepG P true (Conc.G (b.at a (.inRegion ops (i :: rest) :: k)) cs) w = stepG.apply P true (b.at a (.inRegion ops (i :: rest) :: k)) cs none (execOp a.eval o) w := hs
  rw [hs']
  simp only [stepG.apply, Sem.runT_eq, hr]
  exact ⟨_, rfl⟩

theorem opsS.send {P : Program} {ops : Array Oper} {Q : Exit → Act → World → Prop} {i : Nat} {rest : List Nat} {o : Oper} {a : Act} {w : World} {c cap sn rc : Nat} {buf : Array Value} {v z : Value} {tm : Bool} (ho : ops[i]? = some o) (hg : o.guard = none)
    (hr : (execOp a.eval o).run P w = .ok (.comm #[Conc.scase c v z] true .send) w) (hc : w.heap[c]? = some (.chan cap buf false sn rc tm)) (hroom : buf.size < cap)
    (h : opsS P ops Q rest (a.put o.dst undef) (putOb w c (.chan cap (buf.push v) false (sn + 1) rc tm))) : opsS P ops Q (i :: rest) a w := by
  intro b k cs
  obtain ⟨e, a', w'', hq, harr⟩ := h b k cs
  obtain ⟨es, hst⟩ := comm_up (rest := rest) ho hg hr b k cs
  refine ⟨e, a', w'', hq, .of_steps (.one ?_) harr⟩
  have := Conc.step_lone_send_room hst hc hroom
  have hfin : (b.at a (.inRegion ops (i :: rest) :: k)).finish undef = b.at (a.put o.dst undef) (.inRegion ops rest :: k) := by
    rw [Frame.finish_at, ho]; rfl
  rw [hfin] at this
  exact this

theorem opsS.recv {P : Program} {ops : Array Oper} {Q : Exit → Act → World → Prop} {i : Nat} {rest : List Nat} {o : Oper} {a : Act} {w : World} {c cap sn rc : Nat} {buf : Array Value} {z : Value} {tm cl : Bool} (ho : ops[i]? = some o) (hg : o.guard = none)
    (hr : (execOp a.eval o).run P w = .ok (.comm #[Conc.rcase c z] true (.recv true)) w) (hc : w.heap[c]? = some (.chan cap buf cl sn rc tm)) (hsome : 0 < buf.size)
    (h : opsS P ops Q rest (a.put o.dst (.tuple #[buf.getD 0 undef, .bool true])) (putOb w c (.chan cap (buf.extract 1 buf.size) cl sn (rc + 1) tm))) : opsS P ops Q (i :: rest) a w := by
  intro b k cs
  obtain ⟨e, a', w'', hq, harr⟩ := h b k cs
  obtain ⟨es, hst⟩ := comm_up (rest := rest) ho hg hr b k cs
  refine ⟨e, a', w'', hq, .of_steps (.one ?_) harr⟩
  have := Conc.step_lone_recv_buf true hst hc hsome
  have hfin : ∀ v, (b.at a (.inRegion ops (i :: rest) :: k)).finish v = b.at (a.put o.dst v) (.inRegion ops rest :: k) := fun v => by
    rw [Frame.finish_at, ho]; rfl
  rw [hfin] at this
  exact this

theorem opsS.shut {P : Program} {ops : Array Oper} {Q : Exit → Act → World → Prop} {i : Nat} {rest : List Nat} {o : Oper} {a : Act} {w : World} {c cap sn rc : Nat} {z : Value} {tm : Bool} (ho : ops[i]? = some o) (hg : o.guard = none)
    (hr : (execOp a.eval o).run P w = .ok (.comm #[Conc.rcase c z] true (.recv true)) w) (hc : w.heap[c]? = some (.chan cap #[] true sn rc tm))
    (h : opsS P ops Q rest (a.put o.dst (.tuple #[z, .bool false])) w) : opsS P ops Q (i :: rest) a w := by
  intro b k cs
  obtain ⟨e, a', w'', hq, harr⟩ := h b k cs
  obtain ⟨es, hst⟩ := comm_up (rest := rest) ho hg hr b k cs
  refine ⟨e, a', w'', hq, .of_steps (.one ?_) harr⟩
  have := Conc.step_lone_recv_shut true hst hc
  have hfin : ∀ v, (b.at a (.inRegion ops (i :: rest) :: k)).finish v = b.at (a.put o.dst v) (.inRegion ops rest :: k) := fun v => by
    rw [Frame.finish_at, ho]; rfl
  rw [hfin] at this
  exact this

/-- within a region that communicates -/
def XS (E : Ctx) (all : Array Oper) (rest : List Nat) (k : List It) (s : St) : Prop :=
  ∀ (N : Nums) (a : Act) (w : World), E.N0.le N → FrOk E.n N s.fr a → Sat E.toEnv N s.rg w → opsS E.P all (sem E.P E.B k E.Q) rest a w

theorem X.reg {id : Nat} (h : XS E all (List.range all.size) k s) : X E (.code (.region id all false) :: k) s := by
  intro N a w hN hf hS
  show _ → Code.wp _ _ _ _ _
  intro _
  exact (h N a w hN hf hS).region

theorem XS.toX (h : X E (.ops all rest :: k) s) : XS E all rest k s := fun N a w hN hf hS => opsS.of (h N a w hN hf hS)

theorem nth_get {o : Oper} (ho : nth all.toList i = some o) : all[i]? = some o := by rw [nth_eq] at ho; simpa using ho

theorem XS.val (ho : nth all.toList i = some o) (hg : o.guard = none) (r : SV) (hp : putO E.n s.fr o.dst (.val r) = some f)
    (h : ∀ (N : Nums) (a : Act) (w : World), E.N0.le N → FrOk E.n N s.fr a → Sat E.toEnv N s.rg w → ∃ x, r.den N = some x ∧ (execOp a.eval o).run E.P w = .ok (.value x) w)
    (hk : XS E all rest k ⟨f, s.rg⟩) : XS E all (i :: rest) k s := fun N a w hN hf hS => by
  obtain ⟨x, h1, h2⟩ := h N a w hN hf hS
  exact .value (nth_get ho) hg h2 (hk N _ _ hN (putO_sound hf h1 hp) hS)

theorem XS.move {y : Operand} {v : SV} (ho : nth all.toList i = some o) (hg : o.guard = none) (hop : o.op = .move y) (hv : ev s.fr y = some v) (hp : putO E.n s.fr o.dst (.val v) = some f) (hk : XS E all rest k ⟨f, s.rg⟩) : XS E all (i :: rest) k s :=
  XS.val ho hg v hp (fun N a w hN hf hS => ⟨_, ev_sound hf hv, by simp [execOp, hop]⟩) hk

/-- a load from a region -/
theorem XS.load (hT : TabOk E.P T) {t : TypeId} {x : Operand} {y v : SV} (ho : nth all.toList i = some o) (hg : o.guard = none) (hop : o.op = .load t x) (hx : ev s.fr x = some y) (hv : loadV T s.rg t y = some v) (hp : putO E.n s.fr o.dst (.val v) = some f) (hk : XS E all rest k ⟨f, s.rg⟩) : XS E all (i :: rest) k s :=
  XS.val ho hg v hp (fun N a w hN hf hS => by
    obtain ⟨u, h1, h2⟩ := loadV_sound hT.ok hS.vis (ev_sound hf hx) hv
    exact ⟨u, h1, by simp [execOp, hop, h2, Result.andThen]⟩) hk

/-- a send on a channel of which the assertion tells -/
theorem XS.sendR (R' : World → Prop) (c : Nat) {ch y : Operand} {v : SV} (ho : nth all.toList i = some o) (hg : o.guard = none) (hop : o.op = .send ch y) (hch : ev s.fr ch = some (.raw (.chan (some c)))) (hv : ev s.fr y = some v)
    (hD : ∃ o, E.D c o) (hO : ∀ k o, E.D k o → E.W.heap.size ≤ k ∨ E.O k o) (him : ∀ k o, E.D k o → E.im k o = none) (hrg : ∀ g ∈ s.rg, g.own = true ∨ g.cells = []) (hl : Loc E.D R')
    (hR : ∀ N w x, E.N0.le N → E.R w → v.den N = some x → ∃ cap buf sn rc, w.heap[c]? = some (.chan cap buf false sn rc false) ∧ buf.size < cap ∧ R' (putOb w c (.chan cap (buf.push x) false (sn + 1) rc false)))
    (hp : putO E.n s.fr o.dst (.val (.tup [])) = some f) (hk : XS (E.withR R') all rest k ⟨f, s.rg⟩) : XS E all (i :: rest) k s := fun N a w hN hf hS => by
  have h1 := ev_sound hf hch
  simp only [SV.den, one?, if_true, Option.some.injEq] at h1
  obtain ⟨cap, buf, sn, rc, h2, h3, h4⟩ := hR N w _ hN hS.res (ev_sound hf hv)
  have hob := objAt_of h2 trivial
  refine .send (nth_get ho) hg (z := .tuple #[]) (v := a.eval y) ?_ h2 h3 ?_
  · simp [execOp, hop, ← h1, Conc.scase]
  · exact hk N _ _ hN (putO_sound (x := undef) hf rfl hp) (hS.putR (by rw [hob]; rfl) trivial hD hO him hrg hl h4)

/-- a receive from a channel that holds something -/
theorem XS.recvR (R' : World → Prop) (c : Nat) {ct : TypeId} {ch : Operand} {dir : ChanDir} {et : TypeId} {z : Value} (r : SV) (ho : nth all.toList i = some o) (hg : o.guard = none) (hop : o.op = .recv ct ch true) (hu : E.P.underlying ct = some (.chan dir et)) (hz : ∀ w, (zeroValue et).run E.P w = .ok z w)
    (hch : ev s.fr ch = some (.raw (.chan (some c)))) (hD : ∃ o, E.D c o) (hO : ∀ k o, E.D k o → E.W.heap.size ≤ k ∨ E.O k o) (him : ∀ k o, E.D k o → E.im k o = none) (hrg : ∀ g ∈ s.rg, g.own = true ∨ g.cells = []) (hl : Loc E.D R')
    (hR : ∀ N w, E.N0.le N → E.R w → ∃ cap buf cl sn rc, w.heap[c]? = some (.chan cap buf cl sn rc false) ∧ 0 < buf.size ∧ r.den N = some (buf.getD 0 undef) ∧ R' (putOb w c (.chan cap (buf.extract 1 buf.size) cl sn (rc + 1) false)))
    (hp : putO E.n s.fr o.dst (.val (.tup [r, .bool (.lit true)])) = some f) (hk : XS (E.withR R') all rest k ⟨f, s.rg⟩) : XS E all (i :: rest) k s := fun N a w hN hf hS => by
  have h1 := ev_sound hf hch
  simp only [SV.den, one?, if_true, Option.some.injEq] at h1
  obtain ⟨cap, buf, cl, sn, rc, h2, h3, h4, h5⟩ := hR N w hN hS.res
  have hob := objAt_of h2 trivial
  refine .recv (nth_get ho) hg (z := z) ?_ h2 h3 ?_
  · simp [execOp, hop, ← h1, Conc.rcase, run_underlying hu, hz, Result.andThen]
  · exact hk N _ _ hN (putO_sound hf (by simp [SV.den, SV.denL, h4, SB.den]) hp) (hS.putR (by rw [hob]; rfl) trivial hD hO him hrg hl h5)

/-- .. from one that is closed, and empty -/
theorem XS.shutR (c : Nat) {ct : TypeId} {ch : Operand} {dir : ChanDir} {et : TypeId} {z : Value} (r : SV) (ho : nth all.toList i = some o) (hg : o.guard = none) (hop : o.op = .recv ct ch true) (hu : E.P.underlying ct = some (.chan dir et)) (hz : ∀ w, (zeroValue et).run E.P w = .ok z w) (hr : ∀ N, r.den N = some z)
    (hch : ev s.fr ch = some (.raw (.chan (some c)))) (hR : ∀ w, E.R w → ∃ cap sn rc, w.heap[c]? = some (.chan cap #[] true sn rc false))
    (hp : putO E.n s.fr o.dst (.val (.tup [r, .bool (.lit false)])) = some f) (hk : XS E all rest k ⟨f, s.rg⟩) : XS E all (i :: rest) k s := fun N a w hN hf hS => by
  have h1 := ev_sound hf hch
  simp only [SV.den, one?, if_true, Option.some.injEq] at h1
  obtain ⟨cap, sn, rc, h2⟩ := hR w hS.res
  refine .shut (nth_get ho) hg (z := z) ?_ h2 ?_
  · simp [execOp, hop, ← h1, Conc.rcase, run_underlying hu, hz, Result.andThen]
  · exact hk N _ _ hN (putO_sound hf (by simp [SV.den, SV.denL, hr, SB.den]) hp) hS

end

/-! ### maps whose keys are numbers -/
def IntKeys (es : List MapEntry) : Prop := ∀ x ∈ es, ∃ i, x.key = .int .i64 i

open Classical in
/-- what a map holds at a number -/
noncomputable def mget : List MapEntry → Int → Option Value
  | [], _ => none
  | e :: es, i => if e.key = .int .i64 i then some e.val else mget es i

open Classical in
noncomputable def mpos : List MapEntry → Int → Option Nat
  | [], _ => none
  | e :: es, i => if e.key = .int .i64 i then some 0 else (mpos es i).map (· + 1)

theorem find_int : ∀ (l : List MapEntry) (i : Int) (n : Nat), IntKeys l → Instr.findNow (.int .i64) (.int .i64 i) l n = some (match mpos l i with
    | some j => (l[j]?).map fun e => (n + j, e.val)
    | none => none)
  | [], _, _, _ => rfl
  | e :: es, i, n, h => by
    obtain ⟨z, hz⟩ := h e (.head _)
    have ih := find_int es i (n + 1) (fun x hx => h x (.tail _ hx))
    simp only [Instr.findNow, hz, Instr.sameNow, if_true]
    by_cases e1 : i = z
    · subst e1
      have : mpos (e :: es) i = some 0 := by simp only [mpos]; rw [if_pos hz]
      rw [this]; simp
    · have hb : (i == z) = false := by simpa using e1
      have e2 : ¬ (e.key = .int .i64 i) := fun h => by rw [hz] at h; simp at h; exact e1 h.symm
      have : mpos (e :: es) i = (mpos es i).map (· + 1) := by simp only [mpos]; rw [if_neg e2]
      rw [this]
      simp only [hb, ih]
      cases mpos es i with
      | none => rfl
      | some j => simp [Nat.add_assoc, Nat.add_comm 1 j]

theorem mpos_get : ∀ (l : List MapEntry) (i : Int) (j : Nat), mpos l i = some j → ∃ e, l[j]? = some e ∧ e.key = .int .i64 i ∧ mget l i = some e.val
  | [], _, _, h => by simp [mpos] at h
  | e :: es, i, j, h => by
    simp only [mpos] at h
    by_cases e1 : e.key = .int .i64 i
    · rw [if_pos e1] at h; cases h
      exact ⟨e, rfl, e1, by simp [mget, e1]⟩
    · rw [if_neg e1] at h
      cases hp : mpos es i with
      | none => rw [hp] at h; cases h
      | some j' =>
        rw [hp] at h; cases h
        obtain ⟨e', h1, h2, h3⟩ := mpos_get es i j' hp
        exact ⟨e', by simpa using h1, h2, by simp [mget, e1, h3]⟩

theorem mpos_none : ∀ (l : List MapEntry) (i : Int), mpos l i = none → mget l i = none
  | [], _, _ => rfl
  | e :: es, i, h => by
    simp only [mpos] at h
    by_cases e1 : e.key = .int .i64 i
    · rw [if_pos e1] at h; cases h
    · rw [if_neg e1] at h
      simp only [mget, if_neg e1]
      exact mpos_none es i (by cases hp : mpos es i with
        | none => rfl
        | some j => rw [hp] at h; cases h)

theorem mget_push : ∀ (l : List MapEntry) (i : Int) (v : Value) (bn : Nat), mget l i = none → ∀ j, mget (l ++ [⟨.int .i64 i, v, bn⟩]) j = if j = i then some v else mget l j
  | [], i, v, bn, _, j => by
    simp only [List.nil_append, mget]
    by_cases e : j = i
    · subst e; simp
    · rw [if_neg e, if_neg (fun h => by simp at h; exact e h.symm)]
  | e :: es, i, v, bn, h, j => by
    simp only [mget] at h
    by_cases e1 : e.key = .int .i64 i
    · rw [if_pos e1] at h; cases h
    · rw [if_neg e1] at h
      have ih := mget_push es i v bn h j
      simp only [List.cons_append, mget, ih]
      by_cases e2 : e.key = .int .i64 j
      · have : j ≠ i := fun e3 => by subst e3; exact e1 e2
        simp [e2, this]
      · simp [e2]

theorem mget_modify : ∀ (l : List MapEntry) (i : Int) (v : Value) (p : Nat), mpos l i = some p → ∀ j, mget (l.modify p fun e => { e with key := .int .i64 i, val := v }) j = if j = i then some v else mget l j
  | [], _, _, _, h, _ => by simp [mpos] at h
  | e :: es, i, v, p, h, j => by
    simp only [mpos] at h
    by_cases e1 : e.key = .int .i64 i
    · rw [if_pos e1] at h; cases h
      simp only [List.modify_zero_cons, mget]
      by_cases e2 : j = i
      · subst e2; simp
      · have e3 : ¬ (e.key = .int .i64 j) := by rw [e1]; simp; exact fun h => e2 h.symm
        have e4 : ¬ ((Value.int .i64 i) = .int .i64 j) := by simp; exact fun h => e2 h.symm
        rw [if_neg e2, if_neg e3, if_neg e4]
    · rw [if_neg e1] at h
      cases hp : mpos es i with
      | none => rw [hp] at h; cases h
      | some p' =>
        rw [hp] at h; cases h
        have ih := mget_modify es i v p' hp j
        simp only [List.modify_succ_cons, mget, ih]
        by_cases e2 : e.key = .int .i64 j
        · have : j ≠ i := fun e3 => by subst e3; exact e1 e2
          simp [e2, this]
        · simp [e2]

/-- a map, and what it holds -/
def MapAt (m : Nat) (g : Int → Option Value) (w : World) : Prop := ∃ es clock, w.heap[m]? = some (.map es clock) ∧ IntKeys es.toList ∧ ∀ i, mget es.toList i = g i

theorem MapAt.ob {m : Nat} {g : Int → Option Value} {w : World} (h : MapAt m g w) : (objAt w m).isSome = true := by
  obtain ⟨es, clock, h1, _⟩ := h
  rw [objAt_of h1 trivial]; rfl

theorem MapAt.at {m : Nat} {g : Int → Option Value} {w w' : World} (h : MapAt m g w) (hs : objAt w' m = objAt w m) : MapAt m g w' := by
  obtain ⟨es, clock, h1, h2⟩ := h
  rw [objAt_of h1 trivial] at hs
  exact ⟨es, clock, heap_objAt hs, h2⟩

theorem run_lookup_int {P : Program} {m : Nat} {g : Int → Option Value} {w : World} (h : MapAt m g w) {mt kt et : TypeId} {z : Value} (hu : P.underlying mt = some (.map kt et)) (hk : P.underlying kt = some (.int .i64)) (hz : ∀ w, (zeroValue et).run P w = .ok z w) (i : Int) :
    (Instr.lookup mt (.map (some m)) (.int .i64 i) true).run P w = .ok (.tuple #[(g i).getD z, .bool (g i).isSome]) w := by
  obtain ⟨es, clock, h1, h2, h3⟩ := h
  have hf := find_int es.toList i 0 h2
  have hc : ∀ e n, (Instr.checkKey e (n + 1) kt (.int .i64 i)).run P w = .ok () w := fun e n => run_checkKey hk (by simp [IsKey]) e n
  rw [← h3 i]
  cases hp : mpos es.toList i with
  | none =>
    rw [hp] at hf
    simp [Instr.lookup, run_underlying hu, Go.MapKept.run_getObj_map h1, hc, Go.MapKept.run_findKey hk hf, hz, Result.andThen, mpos_none _ _ hp]
  | some j =>
    rw [hp] at hf
    obtain ⟨e, k1, _, k3⟩ := mpos_get _ _ _ hp
    simp only [k1, Option.map_some] at hf
    simp [Instr.lookup, run_underlying hu, Go.MapKept.run_getObj_map h1, hc, Go.MapKept.run_findKey hk hf, Result.andThen, k3]

theorem run_update_int {P : Program} {m : Nat} {g : Int → Option Value} {w : World} (h : MapAt m g w) {mt kt et : TypeId} (hu : P.underlying mt = some (.map kt et)) (hk : P.underlying kt = some (.int .i64)) (i : Int) (v : Value) :
    ∃ x, (Instr.mapUpdate mt (.map (some m)) (.int .i64 i) v).run P w = .ok () (putOb w m x) ∧ notCells x ∧ MapAt m (fun j => if j = i then some v else g j) (putOb w m x) := by
  have hm := objAt_lt h.ob
  obtain ⟨es, clock, h1, h2, h3⟩ := h
  have hf := find_int es.toList i 0 h2
  have hc : ∀ e n, (Instr.checkKey e (n + 1) kt (.int .i64 i)).run P w = .ok () w := fun e n => run_checkKey hk (by simp [IsKey]) e n
  have hkey : IsKey (.int .i64) (.int .i64 i) := by simp [IsKey]
  cases hp : mpos es.toList i with
  | none =>
    rw [hp] at hf
    refine ⟨.map (es.push { key := .int .i64 i, val := v, born := clock }) (clock + 1), ?_, trivial, _, _, heap_put_same hm, ?_, fun j => ?_⟩
    · simp [Instr.mapUpdate, run_underlying hu, Go.MapKept.run_getObj_map h1, hc, Go.MapKept.run_findKey hk hf, Go.MapKept.run_setObj_map _ h1, Result.andThen, putOb]
    · intro x hx
      simp only [Array.toList_push, List.mem_append, List.mem_singleton] at hx
      rcases hx with hx | rfl
      · exact h2 x hx
      · exact ⟨i, rfl⟩
    · rw [Array.toList_push, mget_push _ _ _ _ (mpos_none _ _ hp), h3]
  | some p =>
    rw [hp] at hf
    obtain ⟨e, k1, k2, _⟩ := mpos_get _ _ _ hp
    simp only [k1, Option.map_some] at hf
    have k1' : es[p]? = some e := by simpa using k1
    refine ⟨.map (es.modify p fun e => { e with key := .int .i64 i, val := v }) clock, ?_, trivial, _, _, heap_put_same hm, ?_, fun j => ?_⟩
    · simp [Instr.mapUpdate, run_underlying hu, Go.MapKept.run_getObj_map h1, hc, Go.MapKept.run_findKey hk hf, k1', k2, run_keyThatStays hkey, Go.MapKept.run_setObj_map _ h1, Result.andThen, putOb]
    · intro x hx
      rw [Array.toList_modify] at hx
      obtain ⟨n, hn⟩ := List.mem_iff_getElem?.1 hx
      rw [List.getElem?_modify] at hn
      cases hl : es.toList[n]? with
      | none => rw [hl] at hn; simp at hn
      | some y =>
        rw [hl] at hn
        by_cases e3 : p = n
        · simp [e3] at hn; exact ⟨i, by rw [← hn]⟩
        · simp [e3] at hn; exact h2 x (by rw [← hn]; exact List.mem_of_getElem? hl)
    · rw [Array.toList_modify, mget_modify _ _ _ _ hp, h3]

section
variable {E : Ctx} {T : Tab} {all : Array Oper} {i : Nat} {rest : List Nat} {k : List It} {s : St} {o : Oper} {f : Fr}

/-- a look-up, with comma-ok -/
theorem X.lookupI {mt kt et : TypeId} {x y : Operand} {m : Nat} {j : SI} {z : Value} {v : SV} {b : Bool} (g : Int → Option Value) (ho : nth all.toList i = some o) (hg : o.guard = none) (hop : o.op = .lookup mt x y true) (hu : E.P.underlying mt = some (.map kt et)) (hkt : E.P.underlying kt = some (.int .i64)) (hz : ∀ w, (zeroValue et).run E.P w = .ok z w)
    (hx : ev s.fr x = some (.raw (.map (some m)))) (hy : ev s.fr y = some (.int .i64 j)) (hm : ∀ N w, E.N0.le N → Sat E.toEnv N s.rg w → MapAt m g w) (hv : ∀ N, E.N0.le N → v.den N = some ((g j.den).getD z)) (hb : b = (g j.den).isSome)
    (hp : putO E.n s.fr o.dst (.val (.tup [v, .bool (.lit b)])) = some f) (hk : X E (.ops all rest :: k) ⟨f, s.rg⟩) : X E (.ops all (i :: rest) :: k) s := by
  refine X.value ho hg _ hp (fun N a w hN hfr hS => ?_) hk
  have h1 := ev_sound hfr hx
  have h2 := ev_sound hfr hy
  simp only [SV.den, one?, if_true, Option.some.injEq] at h1 h2
  refine ⟨.tuple #[(g j.den).getD z, .bool (g j.den).isSome], by simp [SV.den, SV.denL, hv N hN, SB.den, hb], ?_⟩
  simp [execOp, hop, ← h1, ← h2, run_lookup_int (hm N w hN hS) hu hkt hz, Result.andThen]

/-- an entry is stored -/
theorem X.mapPutR (R' : World → Prop) {mt kt et : TypeId} {x y u : Operand} {m : Nat} {j : SI} {v : SV} (g : Int → Option Value) (ho : nth all.toList i = some o) (hg : o.guard = none) (hop : o.op = .mapUpdate mt x y u) (hu : E.P.underlying mt = some (.map kt et)) (hkt : E.P.underlying kt = some (.int .i64))
    (hx : ev s.fr x = some (.raw (.map (some m)))) (hy : ev s.fr y = some (.int .i64 j)) (hv : ev s.fr u = some v) (hD : ∃ o, E.D m o) (hO : ∀ k o, E.D k o → E.W.heap.size ≤ k ∨ E.O k o) (him : ∀ k o, E.D k o → E.im k o = none) (hrg : ∀ g ∈ s.rg, g.own = true ∨ g.cells = []) (hl : Loc E.D R')
    (hm : ∀ w, E.R w → MapAt m g w) (hR : ∀ N w c ob, E.N0.le N → Sat E.toEnv N s.rg w → v.den N = some c → notCells ob → MapAt m (fun q => if q = j.den then some c else g q) (putOb w m ob) → R' (putOb w m ob))
    (hp : putO E.n s.fr o.dst (.val (.tup [])) = some f) (hk : X (E.withR R') (.ops all rest :: k) ⟨f, s.rg⟩) : X E (.ops all (i :: rest) :: k) s := by
  refine X.putR0 R' m ho hg hD hO him hrg hl (fun N a w hN hfr hS => ?_) hp hk
  have h1 := ev_sound hfr hx
  have h2 := ev_sound hfr hy
  have h3 := ev_sound hfr hv
  simp only [SV.den, one?, if_true, Option.some.injEq] at h1 h2
  obtain ⟨ob, k1, k2, k3⟩ := run_update_int (P := E.P) (hm w hS.res) hu hkt j.den (a.eval u)
  refine ⟨ob, ?_, (hm w hS.res).ob, k2, hR N w _ ob hN hS h3 k2 k3⟩
  simp [execOp, hop, ← h1, ← h2, k1, Result.andThen]

end

end Go.Eng
