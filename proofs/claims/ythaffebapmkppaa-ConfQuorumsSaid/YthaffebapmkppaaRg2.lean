/- The symbolic executor, part 31: lists that grow keep their regions. -/
import Derived.Test.YthaffebapmkppaaEE

namespace Go.Eng
open Go

mutual
/-- it speaks of no region but those below L, and not of r -/
def SV.frr (L r : Nat) : SV → Bool
  | .own q _ => Nat.blt q L && !(Nat.beq q r)
  | .osl q _ _ _ _ => Nat.blt q L && !(Nat.beq q r)
  | .mp q => Nat.blt q L && !(Nat.beq q r)
  | .ch q => Nat.blt q L && !(Nat.beq q r)
  | .agg cs => SV.frrL L r cs
  | .tup cs => SV.frrL L r cs
  | .fn _ cs => SV.frrL L r cs
  | _ => true
def SV.frrL (L r : Nat) : List SV → Bool
  | [] => true
  | c :: cs => c.frr L r && SV.frrL L r cs
end

theorem num_swap {N : Nums} {q : Num} {L r i : Nat} (hN : N.length = L) (h : (Nat.blt i L && !(Nat.beq i r)) = true) : (N ++ [q])[i]? = (N.set r q)[i]? := by
  simp only [Bool.and_eq_true, Bool.not_eq_true', Nat.blt_eq] at h
  obtain ⟨h1, h2⟩ := h
  have hne : ¬ i = r := fun e => by subst e; simp at h2
  rw [List.getElem?_append_left (by omega), List.getElem?_set_ne (fun e => hne e.symm)]

mutual
theorem SV.frr_den {N : Nums} {q : Num} {L r : Nat} (hN : N.length = L) : ∀ (s : SV), s.frr L r = true → s.den (N ++ [q]) = s.den (N.set r q)
  | .int _ _, _ => rfl
  | .bool _, _ => rfl
  | .own i c, h => by simp only [SV.den, num_swap hN h]
  | .ext _ _ _, _ => rfl
  | .sl _ _ _ _, _ => rfl
  | .slv _ _ _, _ => rfl
  | .raw _, _ => rfl
  | .big _, _ => rfl
  | .agg cs, h => by simp only [SV.den, SV.frrL_den hN cs h]
  | .tup cs, h => by simp only [SV.den, SV.frrL_den hN cs h]
  | .osl i c n z k, h => by simp only [SV.den, num_swap hN h]
  | .fn f cs, h => by simp only [SV.den, SV.frrL_den hN cs h]
  | .mp i, h => by simp only [SV.den, num_swap hN h]
  | .ch i, h => by simp only [SV.den, num_swap hN h]
theorem SV.frrL_den {N : Nums} {q : Num} {L r : Nat} (hN : N.length = L) : ∀ (s : List SV), SV.frrL L r s = true → SV.denL (N ++ [q]) s = SV.denL (N.set r q) s
  | [], _ => rfl
  | c :: cs, h => by
    simp only [SV.frrL, Bool.and_eq_true] at h
    simp only [SV.denL, SV.frr_den hN c h.1, SV.frrL_den hN cs h.2]
end
/-- that, as a sentence -/
def FrP (L r : Nat) : Fr → Prop
  | [] => True
  | (_, .val v) :: f => v.frr L r = true ∧ FrP L r f
  | _ => False
theorem FrP.sh {N : Nums} {q : Num} {L r : Nat} (hN : N.length = L) : ∀ {f : Fr}, FrP L r f → Sh (N ++ [q]) (N.set r q) f f
  | [], _ => trivial
  | (_, .val v) :: _, h => ⟨rfl, fun x hx => by rw [← SV.frr_den hN v h.1]; exact hx, FrP.sh hN h.2⟩
  | (_, .opt _ _ _) :: _, h => h.elim
  | (_, .dead) :: _, h => h.elim

/-- so do the cells of all regions but r -/
def RgF (L r : Nat) : Nat → List Rg → Prop
  | _, [] => True
  | j, g :: gs => (j = r ∨ g.cells.all (SV.frr L r) = true) ∧ RgF L r (j + 1) gs

theorem RgF.get {L r : Nat} : ∀ {gs : List Rg} {j i : Nat} {g : Rg}, RgF L r j gs → gs[i]? = some g → j + i ≠ r → g.cells.all (SV.frr L r) = true
  | [], _, _, _, _, h, _ => by simp at h
  | g0 :: gs, j, 0, g, h, hi, hne => by
    simp at hi
    subst hi
    exact h.1.resolve_left (by omega)
  | g0 :: gs, j, i + 1, g, h, hi, hne => RgF.get (j := j + 1) h.2 (by simpa using hi) (by omega)

/-- the last region takes the place of another one -/
theorem Sat.swap {E : Env} {N : Nums} {rg : List Rg} {w : World} {q : Num} {g0 g : Rg} {r : Nat} (h : Sat E (N ++ [q]) (rg ++ [g]) w) (hr : rg[r]? = some g0) (hc : RgF rg.length r 0 rg) (hg : g.cells.all (SV.frr rg.length r) = true)
    (ho : ∀ g' ∈ rg ++ [g], g'.ob = none) : Sat E (N.set r q) (rg.set r g) w := by
  have hN : N.length = rg.length := by have := h.len; simp at this; exact this
  have hrl : r < rg.length := (List.getElem?_eq_some_iff.1 hr).1
  have hl1 : (rg ++ [g])[rg.length]? = some g := by simp
  have hl2 : (N ++ [q])[rg.length]? = some q := by rw [← hN]; simp
  -- where a region stood
  have back : ∀ {i : Nat} {g' : Rg} {p : Num}, (rg.set r g)[i]? = some g' → (N.set r q)[i]? = some p → ∃ j, (rg ++ [g])[j]? = some g' ∧ (N ++ [q])[j]? = some p ∧ (i = r ∧ j = rg.length ∨ i ≠ r ∧ j = i ∧ i < rg.length) := fun {i g' p} h1 h2 => by
    by_cases e : i = r
    · subst e
      rw [List.getElem?_set_self hrl] at h1
      rw [List.getElem?_set_self (by omega)] at h2
      exact ⟨rg.length, by rw [hl1, h1], by rw [hl2, h2], .inl ⟨rfl, rfl⟩⟩
    · rw [List.getElem?_set_ne (fun h => e h.symm)] at h1 h2
      have hi := (List.getElem?_eq_some_iff.1 h1).1
      exact ⟨i, by rw [List.getElem?_append_left hi]; exact h1, by rw [List.getElem?_append_left (by omega)]; exact h2, .inr ⟨e, rfl, hi⟩⟩
  have free : ∀ {j : Nat} {g' : Rg} {i : Nat}, (rg ++ [g])[j]? = some g' → (i = r ∧ j = rg.length ∨ i ≠ r ∧ j = i ∧ i < rg.length) → g'.cells.all (SV.frr rg.length r) = true := fun {j g' i} h1 h2 => by
    rcases h2 with ⟨_, rfl⟩ | ⟨h2, rfl, h3⟩
    · rw [hl1] at h1; cases h1; exact hg
    · rw [List.getElem?_append_left h3] at h1
      exact hc.get h1 (by omega)
  have noob : ∀ {j : Nat} {g' : Rg}, (rg ++ [g])[j]? = some g' → g'.ob = none := fun h => ho _ (List.mem_of_getElem? h)
  exact { h with
    len := by simp [hN]
    lt := fun i p hp => by
      by_cases e : i = r
      · subst e
        rw [List.getElem?_set_self (by omega)] at hp
        cases hp
        exact h.lt _ _ hl2
      · rw [List.getElem?_set_ne (fun h => e h.symm)] at hp
        exact h.lt i p (by rw [List.getElem?_append_left (List.getElem?_eq_some_iff.1 hp).1]; exact hp)
    cell := fun i g' p h1 h2 j c hj => by
      obtain ⟨k, k1, k2, k3⟩ := back h1 h2
      obtain ⟨v, hv, hw⟩ := h.cell k g' p k1 k2 j c hj
      have := List.all_eq_true.1 (free k1 k3) c (List.mem_of_getElem? hj)
      exact ⟨v, by rw [← SV.frr_den hN c this]; exact hv, hw⟩
    ext := fun i g' p h1 h2 => by obtain ⟨k, k1, k2, _⟩ := back h1 h2; exact h.ext k g' p k1 k2
    room := fun i g' p h1 h2 => by obtain ⟨k, k1, k2, _⟩ := back h1 h2; exact h.room k g' p k1 k2
    disj := fun i i' g' g'' p p' h1 h2 h3 h4 hown hne => by
      obtain ⟨k, k1, k2, k3⟩ := back h1 h2
      obtain ⟨l, l1, l2, l3⟩ := back h3 h4
      exact h.disj k l g' g'' p p' k1 k2 l1 l2 hown (by omega)
    obj := fun i g' p ob h1 h2 h3 => by obtain ⟨k, k1, k2, _⟩ := back h1 h2; rw [noob k1] at h3; cases h3
    odisj := fun i i' g' g'' p p' h1 h2 h3 h4 h5 => by obtain ⟨k, k1, k2, _⟩ := back h1 h2; rw [noob k1] at h5; cases h5
    imd := fun i g' p h1 h2 => by obtain ⟨k, k1, k2, _⟩ := back h1 h2; exact h.imd k g' p k1 k2
    dd := fun i g' p h1 h2 => by obtain ⟨k, k1, k2, _⟩ := back h1 h2; exact h.dd k g' p k1 k2
    foot := fun i g' p h1 h2 => by obtain ⟨k, k1, k2, _⟩ := back h1 h2; exact h.foot k g' p k1 k2 }

section
variable {E : Ctx}
theorem X.swap {k : List It} (h0 : E.N0 = []) {d n z : Nat} {f : Fr} {rg : List Rg} {g0 g : Rg} (r : Nat) (hr : rg[r]? = some g0) (hc : RgF rg.length r 0 rg) (hg : g.cells.all (SV.frr rg.length r) = true) (ho : ∀ g' ∈ rg ++ [g], g'.ob = none) (hf : FrP rg.length r f)
    (h : X E k ⟨(d, .val (.osl r 0 n z none)) :: f, rg.set r g⟩) : X E k ⟨(d, .val (.osl rg.length 0 n z none)) :: f, rg ++ [g]⟩ := by
  refine X.conv fun N a w hN hfr hS => ?_
  have hlen := hS.len
  obtain ⟨M, q, rfl⟩ : ∃ M q, N = M ++ [q] := by
    rcases List.eq_nil_or_concat N with h | ⟨M, q, h⟩
    · subst h; simp at hlen
    · exact ⟨M, q, by rw [h]; simp⟩
  have hM : M.length = rg.length := by simpa using hlen
  have hrl : r < rg.length := (List.getElem?_eq_some_iff.1 hr).1
  refine ⟨E, ⟨(d, .val (.osl r 0 n z none)) :: f, rg.set r g⟩, rfl, rfl, rfl, rfl, ⟨M.set r q, by rw [h0]; exact nil_le _, hfr.sh ⟨rfl, fun x hx => ?_, FrP.sh hM hf⟩, hS.swap hr hc hg ho⟩, h⟩
  have e1 : (M ++ [q])[rg.length]? = some q := by rw [← hM]; simp
  have e2 : (M.set r q)[r]? = some q := List.getElem?_set_self (by omega)
  simp only [SV.den, e1] at hx
  simpa only [SV.den, e2] using hx

end

/-- a list that was nil at first -/
def gV (r n z : Nat) : SV := bif Nat.beq n 0 then .raw (.slice none 0 0) else .osl r 0 n z none
/-- .. that was a literal without elements at first -/
def eV (r n z : Nat) : SV := bif Nat.beq n 0 then .osl r 0 0 z (some 0) else .osl r 0 n z none

section
variable {E : Ctx}
/-- appended, in its place -/
theorem X.appG {T : Tab} (hT : TabOk E.P T) (h0 : E.N0 = []) (kp : List Nat) {all : Array Oper} {i : Nat} {rest : List Nat} {k : List It} {s : St} {o : Oper} {x y : Operand} {ts tx e m n d r : Nat} {ti te : TI} {sx sy : SV} {cs new : List SV} {f1 f2 : Fr} (ho : nth all.toList i = some o) (hg : sure all s.fr o = true)
    (hop : o.op = .call { callee := .builtin .append, args := #[x, y], argTypes := #[ts, tx] }) (hx : ev s.fr x = some sx) (hy : ev s.fr y = some sy) (hti : lookT T ts = some ti) (hk : ti.kind = .slice e) (hte : lookT T e = some te)
    (hsx : sx = gV r n te.size ∨ sx = eV r n te.size ∨ sx = .osl r 0 n te.size none) (hr : nth s.rg r = some ⟨true, cs, none⟩) (hcs : cs.length = n * te.size) (hm : m ≠ 0) (hsrc : appSrc T s.rg te sy tx = some (new, m)) (hok : appV.appOk te new n m = true)
    (hd : o.dst = some d) (hp : putO E.n s.fr (some d) (.val (.osl s.rg.length 0 (n + m) te.size none)) = some f1) (hf : f1.filter (fun p => kp.elem p.1) = (d, .val (.osl s.rg.length 0 (n + m) te.size none)) :: f2)
    (hfr : FrP s.rg.length r f2) (hcr : RgF s.rg.length r 0 s.rg) (hcn : (cs ++ new).all (SV.frr s.rg.length r) = true) (hob : s.rg.all (fun g => g.ob.isNone) = true)
    (h : X E (.ops all rest :: k) ⟨(d, .val (.osl r 0 (n + m) te.size none)) :: f2, s.rg.set r ⟨true, cs ++ new, none⟩⟩) : X E (.ops all (i :: rest) :: k) s := by
  have hr' : s.rg[r]? = some ⟨true, cs, none⟩ := by rw [← nth_eq]; exact hr
  have hrl : r < s.rg.length := (List.getElem?_eq_some_iff.1 hr').1
  have hnob : ∀ g' ∈ s.rg, g'.ob = none := fun g' hg' => by
    have := List.all_eq_true.1 hob g' hg'
    cases h : g'.ob with
    | none => rfl
    | some _ => rw [h] at this; cases this
  -- the last region of rg1, put in place r
  have fin : ∀ rg1 : List Rg, rg1.length = s.rg.length → (∀ g, rg1.set r g = s.rg.set r g) → (∃ g0, rg1[r]? = some g0) → RgF s.rg.length r 0 rg1 → (∀ g' ∈ rg1, g'.ob = none) → X E (.ops all rest :: k) ⟨f1, rg1 ++ [⟨true, cs ++ new, none⟩]⟩ := fun rg1 e1 e2 ⟨g0, e3⟩ e4 e5 => by
    refine X.less kp ?_
    simp only [hf]
    rw [← e1]
    refine X.swap h0 r e3 (by rw [e1]; exact e4) (by rw [e1]; exact hcn) (fun g' hg' => ?_) (by rw [e1]; exact hfr) (by rw [e2]; exact h)
    rcases List.mem_append.1 hg' with h | h
    · exact e5 g' h
    · rw [List.mem_singleton.1 h]
  have late : X E (.ops all rest :: k) ⟨f1, s.rg.set r ⟨false, [], none⟩ ++ [⟨true, cs ++ new, none⟩]⟩ := by
    refine fin (s.rg.set r ⟨false, [], none⟩) (by simp) (fun g => by simp) ⟨_, List.getElem?_set_self hrl⟩ ?_ (fun g' hg' => ?_)
    · have key : ∀ (gs : List Rg) (j i : Nat), RgF s.rg.length r j gs → j + i = r → RgF s.rg.length r j (gs.set i ⟨false, [], none⟩) := fun gs => by
        induction gs with
        | nil => intro j i h1 _; simpa using h1
        | cons g gs ih =>
          intro j i h1 h2
          cases i with
          | zero => exact ⟨.inl (by omega), h1.2⟩
          | succ i => exact ⟨h1.1, ih (j + 1) i h1.2 (by omega)⟩
      exact key s.rg 0 r hcr (by omega)
    · rcases List.mem_or_eq_of_mem_set hg' with h | h
      · exact hnob g' h
      · rw [h]
  by_cases hx3 : sx = .osl r 0 n te.size none
  · subst hx3
    exact X.opEq hT (opE_append ho hg hop hx hy hti hk hte hsrc (appV_hid hr hcs hm hok) (by rw [hd]; exact hp)) late
  have hsx : sx = gV r n te.size ∨ sx = eV r n te.size := by
    rcases hsx with h | h | h
    · exact .inl h
    · exact .inr h
    · exact absurd h hx3
  by_cases hn : n = 0
  · subst hn
    have hcs0 : cs = [] := List.eq_nil_of_length_eq_zero (by rw [hcs, Nat.zero_mul])
    have happ : appV s.rg te sx new m = some (.osl s.rg.length 0 (0 + m) te.size none, s.rg ++ [⟨true, cs ++ new, none⟩]) := by
      rw [hcs0, List.nil_append, Nat.zero_add]
      rcases hsx with rfl | rfl
      · exact appV_nil hm hok
      · exact appV_new hr hm hok
    refine X.opEq hT (opE_append ho hg hop hx hy hti hk hte hsrc happ (by rw [hd]; exact hp)) ?_
    exact fin s.rg rfl (fun _ => rfl) ⟨_, hr'⟩ hcr hnob
  · have hb : Nat.beq n 0 = false := by cases h : Nat.beq n 0 with | false => rfl | true => exact absurd (Nat.eq_of_beq_eq_true h) hn
    have hsx' : sx = .osl r 0 n te.size none := by
      rcases hsx with rfl | rfl
      · simp only [gV, hb, cond_false]
      · simp only [eV, hb, cond_false]
    subst hsx'
    refine X.opEq hT (opE_append ho hg hop hx hy hti hk hte hsrc (appV_hid hr hcs hm hok) (by rw [hd]; exact hp)) ?_
    exact late

end

/-! ### elements of such lists -/
/-- an element's address -/
theorem vk_osl {E : Env} {N0 : Nums} {rg : List Rg} {f : Fr} {g : GK} {t e : TypeId} {x ix : Operand} {n z q r c : Nat} {sx : SV} {kd : IntKind} {s : SI} (hx : evK f g x = some sx) (hsx : sx = gV r n q ∨ sx = eV r n q ∨ ∃ k, sx = .osl r 0 n q k) (hix : evK f g ix = some (.int kd s)) (hz : g.T → s.den = (z : Int)) (hu : E.P.underlying t = some (.slice e)) (hq : ∀ w, (sizeOf e).run E.P w = .ok q w)
    (hlt : g.T → z < n) (hc : c = z * q) (hr : r < rg.length) : ValOk E N0 rg f g (.indexAddr t x ix) (.own r c) := by
  intro ht N ρ op w hN0 hop hρ hV
  have h1 := hρ _ _ hx
  have h2 := hρ _ _ hix
  have hlt := hlt ht
  obtain ⟨p, hp⟩ : ∃ p, N[r]? = some p := ⟨_, List.getElem?_eq_getElem (by have := hV.1.len; omega)⟩
  have hb : Nat.beq n 0 = false := by cases h : Nat.beq n 0 with | false => rfl | true => have := Nat.eq_of_beq_eq_true h; omega
  obtain ⟨k, hk⟩ : ∃ k, ρ x = .slice (some ⟨p.b, p.o + 0, none⟩) n k := by
    rcases hsx with rfl | rfl | ⟨k, rfl⟩
    · simp only [gV, hb, cond_false, SV.den, hp, Option.some.injEq] at h1; exact ⟨_, h1.symm⟩
    · simp only [eV, hb, cond_false, SV.den, hp, Option.some.injEq] at h1; exact ⟨_, h1.symm⟩
    · simp only [SV.den, hp, Option.some.injEq] at h1; exact ⟨_, h1.symm⟩
  simp only [SV.den, hz ht, Option.some.injEq] at h2
  refine ⟨.pointer (some ⟨p.b, p.o + c, none⟩), by simp only [SV.den, hp], fun w' _ => ?_⟩
  simp only [execOp, hop, hk, ← h2, Sem.run_bind, Result.andThen, Sem.run_pure]
  simp [Instr.indexAt, asIntOf, run_underlying hu, Result.andThen, hlt, hq, addr_add, hc]

/-- how many there are -/
theorem vk_len {E : Env} {N0 : Nums} {rg : List Rg} {f : Fr} {g : GK} {x : Operand} {ts e n q r : Nat} {sx : SV} (hx : evK f g x = some sx) (hsx : sx = gV r n q ∨ sx = eV r n q) (hu : E.P.underlying ts = some (.slice e)) (hr : r < rg.length) : ValOk E N0 rg f g (.call { callee := .builtin .len, args := #[x], argTypes := #[ts] }) (.int .i64 (.nat n)) := by
  intro ht N ρ op w hN0 hop hρ hV
  have h1 := hρ _ _ hx
  obtain ⟨p, hp⟩ : ∃ p, N[r]? = some p := ⟨_, List.getElem?_eq_getElem (by have := hV.1.len; omega)⟩
  obtain ⟨q, k, hk⟩ : ∃ q k, ρ x = .slice q n k := by
    by_cases hn : n = 0
    · subst hn
      rcases hsx with rfl | rfl
      · simp [gV, SV.den, one?] at h1; exact ⟨_, _, h1.symm⟩
      · simp only [eV, Nat.beq_refl, cond_true, SV.den, hp, Option.some.injEq] at h1; exact ⟨_, _, h1.symm⟩
    · have hb : Nat.beq n 0 = false := by cases h : Nat.beq n 0 with | false => rfl | true => exact absurd (Nat.eq_of_beq_eq_true h) hn
      rcases hsx with rfl | rfl
      · simp only [gV, hb, cond_false, SV.den, hp, Option.some.injEq] at h1; exact ⟨_, _, h1.symm⟩
      · simp only [eV, hb, cond_false, SV.den, hp, Option.some.injEq] at h1; exact ⟨_, _, h1.symm⟩
  refine ⟨.int .i64 n, rfl, fun w' _ => ?_⟩
  have h2 : (Builtin.len_ #[ts] op.type #[.slice q n k]).run E.P w' = .ok (.int .i64 n) w' := by simp [Builtin.len_, run_underlying hu, Result.andThen, goInt]
  simp [execOp, hop, resolve, invoke, builtin, hk, h2]

/-- an element of several cells -/
theorem vk_loadRow {E : Env} {N0 : Nums} {rg : List Rg} {f : Fr} {g : GK} {t : TypeId} {x : Operand} {r c z : Nat} {gg : Rg} {row : List SV} (hx : evK f g x = some (.own r c)) (ha : ∀ w, (isAgg t).run E.P w = .ok true w) (hs : ∀ w, (sizeOf t).run E.P w = .ok z w) (hr : rg[r]? = some gg)
    (hl : row.length = z) (hc : ∀ (j : Nat) (d : SV), row[j]? = some d → gg.cells[c + j]? = some d) : ValOk E N0 rg f g (.load t x) (.agg row) := by
  intro _ N ρ o w hN0 hop hρ hV
  have h1 := hρ _ _ hx
  obtain ⟨p, hp⟩ : ∃ p, N[r]? = some p := ⟨_, List.getElem?_eq_getElem (Nat.lt_of_lt_of_le (List.getElem?_eq_some_iff.1 hr).1 hV.1.len)⟩
  simp only [SV.den, hp, Option.some.injEq] at h1
  obtain ⟨vs, hvs⟩ : ∃ vs, SV.denL N row = some vs := SV.denL_of row fun j d hj => by
    obtain ⟨v, hv, _⟩ := hV.1.cell r gg p hr hp _ d (hc j d hj)
    exact ⟨v, hv⟩
  obtain ⟨hvl, hvg⟩ := SV.denL_get row hvs
  refine ⟨.agg vs.toArray, by simp only [SV.den, hvs], fun w' hV' => ?_⟩
  have hrun : (loadCells ⟨p.b, p.o + c, none⟩ z).run E.P w' = .ok vs.toArray w' := by
    have := run_loadCells_list (P := E.P) w' ⟨p.b, p.o + c, none⟩ vs (fun j v hj => by
      rw [addr_add]
      have hjl : j < row.length := by have := (List.getElem?_eq_some_iff.1 hj).1; omega
      obtain ⟨v1, k1, k2⟩ := hvg j _ (List.getElem?_eq_getElem hjl)
      rw [k2] at hj
      cases hj
      obtain ⟨v2, k3, k4⟩ := hV'.1.cell r gg p hr hp _ _ (hc j _ (List.getElem?_eq_getElem hjl))
      rw [k1] at k3
      cases k3
      rw [Nat.add_assoc]
      exact k4)
    rw [hvl, hl] at this
    exact this
  simp only [execOp, hop, ← h1, Instr.loadAt, Instr.sureAddr, loadVar, Sem.run_bind, Sem.run_pure, Result.andThen, ha, if_true, hs, hrun]

theorem eV_bd {r n z m : Nat} (h : r < m) : bd m (eV r n z) = true := by
  unfold eV
  cases Nat.beq n 0 <;> simp [bd, h]
theorem eV_frr {r n z L q : Nat} (h : r < L) (h2 : r ≠ q) : (eV r n z).frr L q = true := by
  unfold eV
  have : Nat.beq r q = false := by cases h : Nat.beq r q with | false => rfl | true => exact absurd (Nat.eq_of_beq_eq_true h) h2
  cases Nat.beq n 0 <;> simp [SV.frr, h, this]
/-- what such a list stands for -/
theorem eV_den {N : Nums} {r n z : Nat} {p : Num} {v : Value} (hp : N[r]? = some p) (h : (eV r n z).den N = some v) : ∃ c, v = .slice (some ⟨p.b, p.o + 0, none⟩) n c := by
  by_cases hn : n = 0
  · subst hn
    simp only [eV, Nat.beq_refl, cond_true, SV.den, hp, Option.some.injEq] at h
    exact ⟨_, h.symm⟩
  · have hb : Nat.beq n 0 = false := by cases h : Nat.beq n 0 with | false => rfl | true => exact absurd (Nat.eq_of_beq_eq_true h) hn
    simp only [eV, hb, cond_false, SV.den, hp, Option.some.injEq] at h
    exact ⟨_, h.symm⟩
theorem gV_den {N : Nums} {r n z : Nat} {p : Num} {v : Value} (hp : N[r]? = some p) (h : (gV r n z).den N = some v) : ∃ q c, v = .slice q n c ∧ (0 < n → q = some ⟨p.b, p.o + 0, none⟩) ∧ (n = 0 → q = none ∧ c = 0) := by
  by_cases hn : n = 0
  · subst hn
    simp [gV, SV.den, one?] at h
    exact ⟨_, _, h.symm, fun h => absurd h (Nat.lt_irrefl 0), fun _ => ⟨rfl, rfl⟩⟩
  · have hb : Nat.beq n 0 = false := by cases h : Nat.beq n 0 with | false => rfl | true => exact absurd (Nat.eq_of_beq_eq_true h) hn
    simp only [gV, hb, cond_false, SV.den, hp, Option.some.injEq] at h
    exact ⟨_, _, h.symm, fun _ => rfl, fun h => absurd h hn⟩
theorem eV_ren {N N' : Nums} {r r' n z : Nat} (h : N'[r']? = N[r]?) (x : Value) (hx : (eV r n z).den N = some x) : (eV r' n z).den N' = some x := by
  unfold eV at hx ⊢
  cases hb : Nat.beq n 0 <;> simp only [hb, cond_true, cond_false, SV.den, h] at hx ⊢ <;> exact hx
theorem denL_cons {N : Nums} {c : SV} {cs : List SV} {l : List Value} (h : SV.denL N (c :: cs) = some l) : ∃ v l', l = v :: l' ∧ c.den N = some v ∧ SV.denL N cs = some l' := by
  simp only [SV.denL] at h
  split at h
  · rename_i v hv
    split at h
    · rename_i l' hl
      exact ⟨v, l', (Option.some.inj h).symm, hv, hl⟩
    · cases h
  · cases h
theorem denL_nil {N : Nums} {l : List Value} (h : SV.denL N [] = some l) : l = [] := by
  simp only [SV.denL] at h
  exact (Option.some.inj h).symm

/-- some of the regions are kept, in another order -/
theorem X.keep {E : Ctx} {k : List It} (h0 : E.N0 = []) (rs : List Nat) (hnd : rs.Nodup) {f : Fr} (f' : Fr) {rg : List Rg} (rg' : List Rg) (hl : rg'.length = rs.length) (hrg : ∀ (i r : Nat), rs[i]? = some r → rg'[i]? = rg[r]?)
    (hs : ∀ N N' : Nums, N.length = rg.length → N'.length = rs.length → (∀ (i r : Nat), rs[i]? = some r → N'[i]? = N[r]?) → Sh N N' f f') (hc : ∀ g ∈ rg', ∀ c ∈ g.cells, ∀ (N N' : Nums) (v : Value), c.den N = some v → c.den N' = some v) (hob : ∀ g ∈ rg', g.ob = none) (h : X E k ⟨f', rg'⟩) : X E k ⟨f, rg⟩ := by
  refine X.conv fun N a w hN hfr hS => ?_
  have hNl : N.length = rg.length := hS.len
  have hlt : ∀ (i r : Nat), rs[i]? = some r → r < rg.length := fun i r hi => by
    have h1 := hrg i r hi
    have hi2 : i < rg'.length := by rw [hl]; exact (List.getElem?_eq_some_iff.1 hi).1
    rw [List.getElem?_eq_getElem hi2] at h1
    exact (List.getElem?_eq_some_iff.1 h1.symm).1
  obtain ⟨N', hN', hget⟩ : ∃ N' : Nums, N'.length = rs.length ∧ ∀ (i r : Nat), rs[i]? = some r → N'[i]? = N[r]? := by
    refine ⟨rs.map fun r => N.getD r ⟨0, 0, 0⟩, by simp, fun i r hi => ?_⟩
    have hr := hlt i r hi
    simp [List.getElem?_map, hi, List.getElem?_eq_getElem (show r < N.length by omega)]
  have back : ∀ {i : Nat} {g : Rg} {p : Num}, rg'[i]? = some g → N'[i]? = some p → ∃ r, rs[i]? = some r ∧ rg[r]? = some g ∧ N[r]? = some p := fun {i g p} h1 h2 => by
    have hi : i < rs.length := by rw [← hl]; exact (List.getElem?_eq_some_iff.1 h1).1
    refine ⟨rs[i], List.getElem?_eq_getElem hi, ?_, ?_⟩
    · rw [← hrg i _ (List.getElem?_eq_getElem hi)]; exact h1
    · rw [← hget i _ (List.getElem?_eq_getElem hi)]; exact h2
  have noob : ∀ {i : Nat} {g : Rg}, rg'[i]? = some g → g.ob = none := fun h => hob _ (List.mem_of_getElem? h)
  refine ⟨E, ⟨f', rg'⟩, rfl, rfl, rfl, rfl, ⟨N', by rw [h0]; exact nil_le _, hfr.sh (hs N N' hNl hN' hget), ?_⟩, h⟩
  exact { hS with
    len := by rw [hN', hl]
    lt := fun i p hp => by
      have hi : i < rs.length := by rw [← hN']; exact (List.getElem?_eq_some_iff.1 hp).1
      rw [hget i _ (List.getElem?_eq_getElem hi)] at hp
      exact hS.lt _ p hp
    cell := fun i g p h1 h2 j c hj => by
      obtain ⟨r, _, k1, k2⟩ := back h1 h2
      obtain ⟨v, hv, hw⟩ := hS.cell r g p k1 k2 j c hj
      exact ⟨v, hc g (List.mem_of_getElem? h1) c (List.mem_of_getElem? hj) _ _ v hv, hw⟩
    ext := fun i g p h1 h2 => by obtain ⟨r, _, k1, k2⟩ := back h1 h2; exact hS.ext r g p k1 k2
    room := fun i g p h1 h2 => by obtain ⟨r, _, k1, k2⟩ := back h1 h2; exact hS.room r g p k1 k2
    disj := fun i i' g g' p p' h1 h2 h3 h4 hown hne => by
      obtain ⟨r, r1, k1, k2⟩ := back h1 h2
      obtain ⟨r', r2, l1, l2⟩ := back h3 h4
      refine hS.disj r r' g g' p p' k1 k2 l1 l2 hown fun e => hne ?_
      subst e
      exact (List.getElem?_inj (List.getElem?_eq_some_iff.1 r1).1 hnd).1 (by rw [r1, r2])
    obj := fun i g p ob h1 h2 h3 => by rw [noob h1] at h3; cases h3
    odisj := fun i i' g g' p p' h1 h2 h3 h4 h5 => by rw [noob h1] at h5; cases h5
    imd := fun i g p h1 h2 => by obtain ⟨r, _, k1, k2⟩ := back h1 h2; exact hS.imd r g p k1 k2
    dd := fun i g p h1 h2 => by obtain ⟨r, _, k1, k2⟩ := back h1 h2; exact hS.dd r g p k1 k2
    foot := fun i g p h1 h2 => by obtain ⟨r, _, k1, k2⟩ := back h1 h2; exact hS.foot r g p k1 k2 }

end Go.Eng
