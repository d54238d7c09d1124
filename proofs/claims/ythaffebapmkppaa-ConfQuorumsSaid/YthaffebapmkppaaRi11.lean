/- RingTurned: parts of a slice; what order plays no part. -/
import Derived.Test.YthaffebapmkppaaRi10
import Derived.Test.YthaffebapmkppaaRg1

namespace Go.Proofs.Ythaffebapmkppaa
open Go Go.Eng Go.Sort

theorem appV_none {rg : List Rg} {te : TI} {r n : Nat} {cs : List SV} (hr : nth rg r = some ⟨true, cs, none⟩) (hcs : cs.length = n * te.size) (hok : appV.appOk te [] n 0 = true) :
    appV rg te (.osl r 0 n te.size none) [] 0 = some (.osl r 0 n te.size none, rg) := by
  have e2 : Nat.ble (0 + n * te.size) cs.length = true := by rw [hcs]; exact Nat.ble_eq_true_of_le (by omega)
  simp only [appV, hr, hok, e2, Nat.beq_refl, Bool.and_self, cond_true]

/-! ### calls in a region that draws its order, whose results are told -/
def callAny (j g n : Nat) (all : Array Oper) (r : Nat → SV) (new : List Rg) (pr : St → List SV → Prop) : CallerP := fun i s => bif Nat.beq i j then
    match nth all.toList i with
    | none => none
    | some o => bif sure all s.fr o then
      match o.op with
      | .call c => match c.callee with
        | .value (.func g') => bif Nat.beq g' g then
            match evL s.fr c.args.toList with
            | some l => match putO n s.fr o.dst (.val (r s.rg.length)) with
              | some f => some (⟨f, s.rg ++ new⟩, [], pr s l)
              | none => none
            | none => none
          else none
        | _ => none
      | _ => none
    else none
  else none

theorem callAny_ok {P : Program} {Rr : World → Prop} {im : Nat → Nat → Option Value} {j g n : Nat} {all : Array Oper} {r : Nat → SV} {new : List Rg} {pr : St → List SV → Prop} (hb : ∀ args w, (callFunc g args).run P w = .ok (.enter g args) w)
    (hpr : ∀ s l, pr s l → ∀ (E : Env) (N : Nums) (w : World) (args : List Value), E.P = P → E.R = Rr → E.im = im → Sat E N s.rg w → SV.denL N l = some args → Calls P g args.toArray w fun e w' => ∃ N' v, e = .returned v ∧ N.le N' ∧ (r s.rg.length).den N' = some v ∧ Sat E N' (s.rg ++ new) w') : CallerPOk P n all Rr im (callAny j g n all r new pr) := by
  intro i s s' ws p hc hp
  unfold callAny at hc
  have hb0 := bif_none hc
  clear hc
  obtain ⟨_, hc⟩ := hb0
  split at hc
  · cases hc
  · rename_i o ho
    rw [nth_eq] at ho
    have hb1 := bif_none hc
    clear hc
    obtain ⟨hsu, hc⟩ := hb1
    split at hc
    · rename_i c hop
      split at hc
      · rename_i g' hcal
        have hb2 := bif_none hc
        clear hc
        obtain ⟨hg, hc⟩ := hb2
        have hg := Nat.eq_of_beq_eq_true hg
        subst hg
        split at hc
        · rename_i l hl
          split at hc
          · rename_i f hput
            simp only [Option.some.injEq, Prod.mk.injEq] at hc
            obtain ⟨rfl, rfl, rfl⟩ := hc
            refine ⟨⟨fun r g hg _ => by rw [List.getElem?_append_left (List.getElem?_eq_some_iff.1 hg).1]; exact hg, by simp⟩, o, by simpa using ho, fun E N a w hP hn hR him hf hS => ⟨sure_sound hf hsu, fun K Q hK => ?_⟩⟩
            subst hP; subst hn
            have hargs := evL_sound hf _ hl
            have hexec : (execOp a.eval o).run E.P w = .ok (.enter g' (c.args.toList.map a.eval).toArray) w := by
              obtain ⟨callee, args, argTypes⟩ := c
              simp only at hcal
              try simp only at hl
              subst hcal
              simp only [execOp, hop, resolve, Act.eval, Deferred.ofValue, Sem.run_bind, Sem.run_pure, Result.andThen, invoke]
              rw [hb]
              congr 2
              apply Array.ext'
              simp
            unfold Oper.wp
            rw [hexec]
            show Calls _ _ _ _ _
            refine Calls.mono (hpr _ _ hp E N w _ rfl hR him hS hargs) fun e w' ⟨N', v, h1, h2, h3, h4⟩ => ?_
            subst h1
            exact hK N' v w' h2 (putO_sound (hf.mono h2) h3 hput) h4
          · cases hc
        · cases hc
      · cases hc
    · cases hc

def orC (a b : CallerP) : CallerP := fun i s => match a i s with
  | some x => some x
  | none => b i s
theorem orC_ok {P : Program} {Rr : World → Prop} {im : Nat → Nat → Option Value} {n : Nat} {all : Array Oper} {a b : CallerP} (ha : CallerPOk P n all Rr im a) (hb : CallerPOk P n all Rr im b) : CallerPOk P n all Rr im (orC a b) := by
  intro i s s' ws p hc hp
  unfold orC at hc
  split at hc
  · rename_i x hx
    rw [hc] at hx
    exact ha i s s' ws p hx hp
  · exact hb i s s' ws p hc hp

/-- a row that was made since, only read -/
theorem Sat.addRo {E : Env} {N : Nums} {rg : List Rg} {w : World} (h : Sat E N rg w) {b o x s0 : Nat} {cs : List SV} (hN : ∀ (r : Nat) (p : Num), N[r]? = some p → p.b < s0) (hs0 : s0 ≤ b) (hb : b < w.heap.size)
    (hcs : ∀ (j : Nat) (c : SV), cs[j]? = some c → ∃ v, c.den N = some v ∧ w.cell? ⟨b, o + j, none⟩ = some v) : Sat E (N ++ [⟨b, o, x⟩]) (rg ++ [⟨false, cs, none⟩]) w := by
  have hle : N.le (N ++ [⟨b, o, x⟩]) := Nums.le_append _ _
  refine ⟨by simp [h.len], ?_, ?_, ?_, ?_, ?_, ?_, ?_, h.imm, ?_, ?_, h.dlt, h.loc, h.res, h.chg, ?_⟩
  · intro i q hq
    rcases Nat.lt_or_ge i N.length with hi | hi
    · rw [List.getElem?_append_left hi] at hq; exact h.lt i q hq
    · rw [List.getElem?_append_right hi] at hq
      have hz : i - N.length = 0 := by
        have := (List.getElem?_eq_some_iff.1 hq).1
        simp at this; omega
      rw [hz] at hq; simp at hq; subst hq; exact hb
  · intro i g q hg hq j d hj
    rcases get_snoc h.len hg hq with ⟨a, b⟩ | ⟨_, rfl, rfl⟩
    · obtain ⟨v, h1, h2⟩ := h.cell i g q a b j d hj
      exact ⟨v, SV.den_mono hle d h1, h2⟩
    · obtain ⟨v, h1, h2⟩ := hcs j d hj
      exact ⟨v, SV.den_mono hle d h1, h2⟩
  · intro i g q hg hq ho
    rcases get_snoc h.len hg hq with ⟨a, b⟩ | ⟨_, rfl, rfl⟩
    · exact h.ext i g q a b ho
    · cases ho
  · intro i g q hg hq ho
    rcases get_snoc h.len hg hq with ⟨a, b⟩ | ⟨_, rfl, rfl⟩
    · exact h.room i g q a b ho
    · cases ho
  · intro i i' g g' q q' hg hq hg' hq' ho hne j hj hb'
    rcases get_snoc h.len hg hq with ⟨a1, a2⟩ | ⟨a0, rfl, rfl⟩
    · rcases get_snoc h.len hg' hq' with ⟨b1, b2⟩ | ⟨b0, rfl, rfl⟩
      · exact h.disj i i' g g' q q' a1 a2 b1 b2 ho hne j hj hb'
      · have := hN i q a2; simp at hb'; omega
    · cases ho
  · intro i g q ob hg hq ho
    rcases get_snoc h.len hg hq with ⟨a, b⟩ | ⟨_, rfl, rfl⟩
    · obtain ⟨⟨o', k1, k2⟩, k3⟩ := h.obj i g q ob a b ho
      exact ⟨⟨o', Ob.den_mono hle ob k1, k2⟩, k3⟩
    · simp at ho
  · intro i i' g g' q q' hg hq hg' hq' ho ho' hne
    rcases get_snoc h.len hg hq with ⟨a1, a2⟩ | ⟨a0, rfl, rfl⟩
    · rcases get_snoc h.len hg' hq' with ⟨b1, b2⟩ | ⟨b0, rfl, rfl⟩
      · exact h.odisj i i' g g' q q' a1 a2 b1 b2 ho ho' hne
      · simp at ho'
    · simp at ho
  · intro i g q hg hq ho
    rcases get_snoc h.len hg hq with ⟨a, b⟩ | ⟨_, rfl, rfl⟩
    · exact h.imd i g q a b ho
    · cases ho
  · intro i g q hg hq ho
    rcases get_snoc h.len hg hq with ⟨a, b⟩ | ⟨_, rfl, rfl⟩
    · exact h.dd i g q a b ho
    · cases ho
  · intro i g q hg hq ho
    rcases get_snoc h.len hg hq with ⟨a, b⟩ | ⟨_, rfl, rfl⟩
    · exact h.foot i g q a b ho
    · cases ho

/-- a row that is new, to be read -/
def RoRet (cs : List SV) (n : Nat) (w : World) (e : Ending) (w' : World) : Prop :=
  ∃ b o c, e = .returned (.slice (some ⟨b, o, none⟩) n c) ∧ w.heap.size ≤ b ∧ b < w'.heap.size ∧ (∀ (j : Nat) (c : SV), cs[j]? = some c → ∃ v, (∀ N, c.den N = some v) ∧ w'.cell? ⟨b, o + j, none⟩ = some v) ∧ Chg (fun _ _ => False) w w'
theorem RoRet.sat {E : Env} {N : Nums} {rg : List Rg} {w w' : World} {cs : List SV} {n sz : Nat} {e : Ending} (hz : 0 < sz) (hf : RoRet cs n w e w') (h : Sat E N rg w) :
    ∃ N' v, e = .returned v ∧ N.le N' ∧ (SV.osl rg.length 0 n sz none).den N' = some v ∧ Sat E N' (rg ++ [⟨false, cs, none⟩]) w' := by
  obtain ⟨b, o, c, he, h1, h2, h3, hc⟩ := hf
  have hget : (N ++ [⟨b, o, sz * c⟩] : Nums)[rg.length]? = some ⟨b, o, sz * c⟩ := by rw [← h.len]; simp
  refine ⟨N ++ [⟨b, o, sz * c⟩], _, he, Nums.le_append _ _, by simp only [SV.den, hget, Num.cap, Nat.add_zero, Nat.sub_zero, Nat.mul_div_cancel_left _ hz], ?_⟩
  exact Sat.addRo (h.after0 hc) (s0 := w.heap.size) (fun r p hp => h.lt r p hp) h1 h2 (fun j c hj => by
    obtain ⟨v, k1, k2⟩ := h3 j c hj
    exact ⟨v, k1 N, k2⟩)

theorem PtsRet.ro {L : List (Int × Int)} {w : World} {e : Ending} {w' : World} (h : PtsRet L w e w') (hL : L ≠ []) : RoRet (ptsL L) L.length w e w' := by
  obtain ⟨p, c, he, hr, hc⟩ := h
  rcases hr with h | ⟨b, o, rfl, h2, h3⟩
  · exact absurd h hL
  · have h0 : 0 < L.length := List.length_pos_iff.2 hL
    refine ⟨b, o, c, he, h2, World.block_lt_of_cell? _ _ (h3 0 (by rw [size_flatK]; simp; omega)).1, fun j x hj => ?_, hc⟩
    have hj2 : j < L.length * 2 := by rw [← ptsL_len]; exact (List.getElem?_eq_some_iff.1 hj).1
    obtain ⟨x', k1, k2⟩ := ptsL_get L j hj2
    rw [hj] at k1
    cases k1
    exact ⟨_, k2, (h3 j (by rw [size_flatK]; simpa using hj2)).1⟩
theorem BytRet.ro {l : List Int} {w : World} {e : Ending} {w' : World} (h : BytRet l w e w') (hl : l ≠ []) : RoRet (bytL l) l.length w e w' := by
  obtain ⟨p, c, he, _, hr, hc⟩ := h
  rcases hr with ⟨h, _⟩ | ⟨_, b, o, rfl, h2, h3⟩
  · exact absurd h hl
  · have h0 : 0 < l.length := List.length_pos_iff.2 hl
    refine ⟨b, o, c, he, h2, World.block_lt_of_cell? _ _ (h3 0 (by simpa using h0)).1, fun j x hj => ?_, hc⟩
    have hj2 : j < l.length := by rw [← bytL_len]; exact (List.getElem?_eq_some_iff.1 hj).1
    obtain ⟨z, k1, rfl⟩ : ∃ z, l[j]? = some z ∧ x = .int .u8 (.v z) := by
      unfold bytL at hj
      rw [List.getElem?_map] at hj
      obtain ⟨z, k1, k2⟩ := Option.map_eq_some_iff.1 hj
      exact ⟨z, k1, k2.symm⟩
    refine ⟨_, fun _ => rfl, ?_⟩
    have := (h3 j (by simpa using hj2)).1
    rw [this]
    have hz : l[j] = z := by rw [List.getElem?_eq_getElem hj2] at k1; exact Option.some.inj k1
    simp [SI.den, hj2, hz]

theorem ascA_pos {d : Array Int} (h : 0 < d.size) : 0 < (ascA d).size := by
  have h0 : (0 : Nat) ∈ (List.range d.size).filter (Go.Lib.keeps (srtA d)) := List.mem_filter.2 ⟨List.mem_range.2 h, Go.Lib.keeps_lt_one _ 0 (by omega)⟩
  simp only [ascA, Go.Lib.compactUpTo, List.size_toArray, List.length_map]
  exact List.length_pos_of_mem h0
theorem ringP_pos {d : Array Int} (h : 0 < d.size) : ringP d ≠ [] := fun e => by
  have h1 := (ringP_perm d).length_eq
  rw [e, ← ringTo_all, ringTo_len _ _ (Nat.le_refl _)] at h1
  have := ascA_pos h
  simp at h1
  omega
theorem keepGo_ge (R : Nat → Int) (many : Int) : ∀ (k i : Nat) (out : List Int), out.length ≤ (keepGo R many k i out).length
  | 0, _, out => Nat.le_refl _
  | k + 1, i, out => by
    unfold keepGo
    split
    · exact Nat.le_refl _
    · have h1 := keepGo_ge R many k (i + 1) (if R i ∈ out then out else out ++ [R i])
      have h2 : out.length ≤ (if R i ∈ out then out else out ++ [R i]).length := by split <;> simp
      omega
theorem ofL_pos {d : Array Int} {key : Int} (h : 0 < d.size) : ofL d key ≠ [] := fun e => by
  have h1 : (keepL (ringP d) key 3).length = 0 := by
    have := congrArg List.length e
    simp only [ofL, Array.length_toList, srtA_size, List.size_toArray, List.length_nil] at this
    exact this
  have hL : 0 < (ringP d).length := List.length_pos_iff.2 (ringP_pos h)
  obtain ⟨q, hq⟩ : ∃ q, (ringP d).length = q + 1 := ⟨(ringP d).length - 1, by omega⟩
  unfold keepL at h1
  rw [hq, keepGo, if_neg (by simp), if_neg (by simp)] at h1
  have := keepGo_ge (nodeAt (ringP d) (atP (ringP d) (keyZ key))) 3 q (0 + 1) ([] ++ [nodeAt (ringP d) (atP (ringP d) (keyZ key)) 0])
  rw [h1] at this
  simp at this

theorem goodR_str1 {P : Program} {n : Nat} {ops : Array Oper} {N0 : Nums} {j d x src e dst r m : Nat} {kc : Option Nat} {l : List Int} {u : ByteArray} {ow : Bool} (hop : ∀ o, nth ops.toList j = some o → o.op = .convert src dst (.tmp x)) (hs : P.underlying src = some (.slice e)) (he : P.underlying e = some (.int .u8)) (hd : P.underlying dst = some .string)
    (cs : List SV) (hcs : cs = bytL l) (hm : l.length = m) (hu : u = strOfNums l) : ValR.good P n ops N0 ⟨j, d, .raw (.string u), fun rg f => ev f (.tmp x) = some (.osl r 0 m 1 kc) ∧ nth rg r = some ⟨ow, cs, none⟩⟩ := by
  intro rg f ⟨hx, hr⟩ N a o w hN ho hfr hV
  refine ⟨_, rfl, fun w' hV' => ?_⟩
  have h1 := ev_sound hfr hx
  rw [nth_eq] at hr
  obtain ⟨p, hp⟩ : ∃ p, N[r]? = some p := ⟨_, List.getElem?_eq_getElem (by have := (List.getElem?_eq_some_iff.1 hr).1; have := hV.len; omega)⟩
  simp only [SV.den, hp, Option.some.injEq] at h1
  have := run_convert_bytes_arg (P := P) (w := w') src e hs he p.b (p.o + 0) m (p.cap 0 1 kc) l hm (fun j hj => by
    obtain ⟨v, k1, k2⟩ := hV'.cell r _ p hr hp j (.int .u8 (.v l[j]!)) (by rw [hcs]; simp [bytL, hm, hj])
    simp only [SV.den, SI.den, Option.some.injEq] at k1
    rw [Nat.add_zero, k2, ← k1]
    simp [hm, hj]) dst hd
  simp only [execOp, hop o ho, ← h1, this, Sem.run_bind, Result.andThen, Sem.run_pure]
  subst hu
  rfl

theorem goodR_eq1 {P : Program} {n : Nat} {ops : Array Oper} {N0 : Nums} {j d x y t : Nat} {u : ByteArray} (hop : ∀ o, nth ops.toList j = some o → o.op = .binOp .eql t (.tmp x) (.tmp y) t) :
    ValR.good P n ops N0 ⟨j, d, .bool (.lit true), fun _ f => ev f (.tmp x) = some (.raw (.string u)) ∧ ev f (.tmp y) = some (.raw (.string u))⟩ := by
  intro rg f ⟨hx, hy⟩ N a o w hN ho hfr hV
  refine ⟨_, rfl, fun w' _ => ?_⟩
  have h1 := ev_sound hfr hx
  have h2 := ev_sound hfr hy
  simp only [SV.den, one?, if_true, Option.some.injEq] at h1 h2
  have hb' : ∀ w', (binOp .eql t (.string u) (.string u)).run P w' = .ok (.bool true) w' := fun w' => by
    simp [binOp, Op.stringOp]
  simp [execOp, hop o ho, ← h1, ← h2, Result.andThen, eqGuard_none, hb', SB.den]

end Go.Proofs.Ythaffebapmkppaa
