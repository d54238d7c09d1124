/- The history's functions: Entries. -/
import Derived.Test.YtcfghkiokdbhjaaHi5
import Derived.Test.YtcfghkiokdbhjaaHiA

namespace Go.Eng

/-- a part of a row, written over -/
theorem ArrAt.put {b y sz n : Nat} {f : Nat → List Value} {w : World} (h : ArrAt b y sz n f w) {i j0 : Nat} {vs row : List Value} (hi : i < n) (he : row = (f i).take j0 ++ vs ++ (f i).drop (j0 + vs.length)) (hj0 : j0 + vs.length ≤ sz) :
    ArrAt b y sz n (updA f i row) (putRow w b (y + (i * sz + j0)) vs) := by
  obtain ⟨hl, hcell⟩ := h i hi
  have hself : ∀ j, j < vs.length → (w.cell? ⟨b, y + (i * sz + j0) + j, none⟩).isSome = true := fun j hj => by
    obtain ⟨v, hv⟩ : ∃ v, (f i)[j0 + j]? = some v := ⟨_, List.getElem?_eq_getElem (by omega)⟩
    have := (hcell (j0 + j) v hv).1
    rw [show y + (i * sz + j0) + j = y + (i * sz + (j0 + j)) by omega, this]; rfl
  have hoth : ∀ o, ¬ (y + (i * sz + j0) ≤ o ∧ o < y + (i * sz + j0) + vs.length) → (putRow w b (y + (i * sz + j0)) vs).cell? ⟨b, o, none⟩ = w.cell? ⟨b, o, none⟩ := fun o hn => putRow_other _ _ _ _ _ _ (fun _ => by omega)
  have hrl : row.length = sz := by rw [he]; simp; omega
  intro s hs
  obtain ⟨hsl, hsc⟩ := h s hs
  by_cases e : s = i
  · subst e
    simp only [updA, if_true]
    refine ⟨hrl, fun q v hq => ?_⟩
    have hq18 : q < sz := by rw [← hrl]; exact (List.getElem?_eq_some_iff.1 hq).1
    rw [putRow_frozen]
    obtain ⟨u, hu⟩ : ∃ u, (f s)[q]? = some u := ⟨_, List.getElem?_eq_getElem (by omega)⟩
    refine ⟨?_, (hsc q u hu).2⟩
    rw [he] at hq
    have hlt : ((f s).take j0).length = j0 := by rw [List.length_take]; omega
    by_cases e1 : q < j0
    · rw [List.append_assoc, List.getElem?_append_left (by omega), List.getElem?_take, if_pos e1] at hq
      rw [hoth _ (fun ⟨e2, e3⟩ => by omega)]
      exact (hsc q v hq).1
    · by_cases e2 : q < j0 + vs.length
      · rw [List.append_assoc, List.getElem?_append_right (by omega), hlt, List.getElem?_append_left (by omega)] at hq
        have := putRow_same b vs (y + (s * sz + j0)) w hself _ v hq
        rwa [show y + (s * sz + j0) + (q - j0) = y + (s * sz + q) by omega] at this
      · rw [List.getElem?_append_right (by rw [List.length_append, hlt]; omega), List.length_append, hlt, List.getElem?_drop, show j0 + vs.length + (q - (j0 + vs.length)) = q by omega] at hq
        rw [hoth _ (fun ⟨e3, e4⟩ => by omega)]
        exact (hsc q v hq).1
  · simp only [updA, e, if_false]
    refine ⟨hsl, fun q v hq => ?_⟩
    have hq18 : q < sz := by rw [← hsl]; exact (List.getElem?_eq_some_iff.1 hq).1
    rw [putRow_frozen, hoth _ (fun ⟨e3, e4⟩ => by
      have := idx_apart (sz := sz) e hq18
      omega)]
    exact hsc q v hq

end Go.Eng

namespace Go.Proofs.Ytcfghkiokdbhjaa
open Go.Eng

/-- numbers lie in memory that stays -/
def IntsM (po : Option Addr) (n : Nat) (g : Nat → Int) (m : Mem) : Prop :=
  0 < n → ∃ b y, po = some ⟨b, y, none⟩ ∧ ∀ j, j < n → m b (y + j) = some (.int .i64 (g j))

theorem IntsM.in {po : Option Addr} {n : Nat} {g : Nat → Int} {m : Mem} {w : World} (h : IntsM po n g m) (hm : ∀ k o v, m k o = some v → w.cell? ⟨k, o, none⟩ = some v) : IntsIn po n g w := fun hn => by
  obtain ⟨b, y, h1, h2⟩ := h hn
  exact ⟨b, y, h1, fun j hj => hm _ _ _ (h2 j hj)⟩
theorem IntsM.more {po : Option Addr} {n : Nat} {g : Nat → Int} {m m' : Mem} (h : IntsM po n g m) (hm : ∀ k o v, m k o = some v → m' k o = some v) : IntsM po n g m' := fun hn => by
  obtain ⟨b, y, h1, h2⟩ := h hn
  exact ⟨b, y, h1, fun j hj => hm _ _ _ (h2 j hj)⟩

/-- .. in memory that grew -/
theorem IntsIn.grown {po : Option Addr} {n : Nat} {g : Nat → Int} {m : Mem} {D' : Nat → Nat → Prop} {w w' : World} (h : IntsIn po n g w') (hb : ∀ a, po = some a → 0 < n → w.heap.size ≤ a.block) (hd : ∀ k o, D' k o → k < w.heap.size) (hm : ∀ k o, w.heap.size ≤ k → m k o = none) : IntsM po n g (Eng.grow m D' w w') := fun hn => by
  obtain ⟨b, y, h1, h2⟩ := h hn
  have hb' : w.heap.size ≤ b := hb _ h1 hn
  exact ⟨b, y, h1, fun j hj => grow_new (hm b _ hb') hb' (fun hd' => by have := hd _ _ hd'; omega) (h2 j hj)⟩

/-- an entry that is the other one, but for where its numbers lie -/
def Ent.like (e e' : Ent) : Prop := ∃ p c, e' = { e with vp := p, vc := c }

theorem upd_vals (f : Nat → Ent) (i : Nat) (e : Ent) : updA (fun k => (f k).vals) i e.vals = fun k => (updA f i e k).vals := by
  funext k
  unfold updA
  split <;> rfl

/-- Entries, under way -/
structure EntsGo (B n : Nat) (f : Nat → Ent) (G : Nat → Nat → Int) (m0 : Mem) (D : Nat → Nat → Prop) (i : Nat) (f' : Nat → Ent) (m : Mem) : Prop where
  le : i ≤ n
  like : ∀ j, j < n → (f j).like (f' j)
  got : ∀ j, j < i → IntsM (f' j).vp (f j).vn (G j) m
  not : ∀ j, i ≤ j → f' j = f j
  old : ∀ k o v, m0 k o = some v → m k o = some v
  far : ∀ j, j < i → ∀ a, (f' j).vp = some a → 0 < (f j).vn → B ≤ a.block
  out : ∀ k o, D k o → m k o = none

set_option maxHeartbeats 40000000 in
set_option maxRecDepth 100000 in
set_option cbv.maxSteps 100000000 in
theorem entries_ok (hb hy : Nat) (po : Option Addr) (n cp : Nat) (f : Nat → Ent) (G : Nat → Nat → Int) (w : World) (hn : n ≤ 1000) (hE : EntsIn po n f w) (hh : w.cell? ⟨hb, hy, none⟩ = some (.slice po n cp)) (hG : ∀ i, i < n → IntsIn (f i).vp (f i).vn (G i) w ∧ (f i).vn ≤ 1000) :
    Calls Try.prog 39 #[.pointer (some ⟨hb, hy, none⟩)] w fun e w' => (∃ (p' : Option Addr) (c' b y : Nat) (f' : Nat → Ent), e = .returned (.slice p' n c') ∧ (0 < n → p' = some ⟨b, y, none⟩ ∧ w.heap.size ≤ b) ∧ ArrAt b y 18 n (fun i => Ent.vals (f' i)) w' ∧
      (∀ i, i < n → (f i).like (f' i) ∧ IntsIn (f' i).vp (f i).vn (G i) w' ∧ ∀ a, (f' i).vp = some a → 0 < (f i).vn → w.heap.size ≤ a.block) ∧ n ≤ c') ∧ Chg (fun _ _ => False) w w' := by
  obtain ⟨Q, hQ⟩ : ∃ Q : Ending → World → Prop, Q = fun e w' => (∃ (p' : Option Addr) (c' b y : Nat) (f' : Nat → Ent), e = .returned (.slice p' n c') ∧ (0 < n → p' = some ⟨b, y, none⟩ ∧ w.heap.size ≤ b) ∧ ArrAt b y 18 n (fun i => Ent.vals (f' i)) w' ∧
      (∀ i, i < n → (f i).like (f' i) ∧ IntsIn (f' i).vp (f i).vn (G i) w' ∧ ∀ a, (f' i).vp = some a → 0 < (f i).vn → w.heap.size ≤ a.block) ∧ n ≤ c') ∧ Chg (fun _ _ => False) w w' := ⟨_, rfl⟩
  rw [← hQ]
  refine X.begin (rg := []) (N := []) (ss := [.ext hb hy 0]) Try.func39 rfl B39_ok rfl rfl Sat.std0 ?_
  refine X.go T39_ok 400 _ rfl Try.results39 ?_
  conv => arg 2; cbv
  refine X.load1 T39_ok (r := .slv po n cp) rfl rfl rfl rfl rfl rfl (fun N _ => ⟨_, rfl, by show elsewhere [] [] w hb (hy + 0) = _; rw [else0]; exact hh⟩) rfl ?_
  refine X.go T39_ok 400 _ rfl Try.results39 ?_
  conv => arg 2; cbv
  refine X.call rfl rfl rfl rfl Try.call72 (fun N w1 args hN hS ha => ?_)
  have ha' : [Value.slice po n cp] = args := Option.some.inj (ha ▸ rfl : some _ = some args)
  subst ha'
  have him : ∀ k o v, w.cell? ⟨k, o, none⟩ = some v → w1.cell? ⟨k, o, none⟩ = some v := fun k o v h => hS.imm k o v (by show elsewhere [] [] w k o = _; rw [else0]; exact h)
  refine (cloneE_ok po n cp f w1 hn (hE.at him)).mono fun e w' ⟨⟨p', c', b, y, he, hpb, hA, hcap⟩, hc⟩ => ⟨_, he, Goes.turn (arrD b y (n * 18)) (ArrAt b y 18 n (fun i => (f i).vals)) hN hS (hc.mono fun _ _ _ h => h.elim) (fun _ _ h => False.elim h) (fun _ _ h => False.elim h) (fun g h => by cases h) (fun q z h => ⟨.inr (h.1 ▸ (hpb (by have := h.2.1; have := h.2.2; omega)).2), hA.there (by omega) q z h⟩) ArrAt.loc hA (r := .slv p' n c') rfl rfl ?_⟩
  have hsz : w.heap.size ≤ w1.heap.size := hS.chg.size
  have hb0 : ∀ k o, arrD b y (n * 18) k o → w1.heap.size ≤ k := fun k o h => h.1 ▸ (hpb (by have := h.2.1; have := h.2.2; omega)).2
  have hp0 : ∀ i, i < n → p' = some ⟨b, y, none⟩ := fun i hi => (hpb (by omega)).1
  have hpb' : 0 < n → p' = some ⟨b, y, none⟩ ∧ w.heap.size ≤ b := fun h => ⟨(hpb h).1, Nat.le_trans hsz (hpb h).2⟩
  have hold : ∀ k o, arrD b y (n * 18) k o → elsewhere [] [] w k o = none := fun k o h => by
    rw [else0]
    cases hx : w.cell? ⟨k, o, none⟩ with
    | none => rfl
    | some v => exact absurd (World.block_lt_of_cell? _ _ hx) (by have := hb0 k o h; show ¬ k < _; omega)
  have hO : ∀ k o, arrD b y (n * 18) k o → w.heap.size ≤ k ∨ InR [] [] k o := fun k o h => .inl (Nat.le_trans hsz (hb0 k o h))
  clear hc hA he hS hN ha him hpb
  show X (mkE Try.prog Try.f39 Q w (InR [] []) (elsewhere [] [] w) (arrD b y (n * 18)) (ArrAt b y 18 n (fun i => (f i).vals)) [] B39) _ _
  refine X.go T39_ok 400 _ rfl Try.results39 ?_
  conv => arg 2; cbv
  refine X.loop (fun (i : {i : Nat × (Nat → Ent) × Mem // EntsGo w.heap.size n f G (elsewhere [] [] w) (arrD b y (n * 18)) i.1 i.2.1 i.2.2}) => mkE Try.prog Try.f39 Q w (InR [] []) i.1.2.2 (arrD b y (n * 18)) (ArrAt b y 18 n (fun j => (i.1.2.1 j).vals)) [] B39)
    (fun i => ⟨[(3, .val (.slv p' n c')), (13, .val (.int .i64 (.nat n))), (14, .val (.int .i64 (.nat i.1.1)))], []⟩) (fun i => n - i.1.1) (fun i => ⟨rfl, rfl, rfl, rfl⟩) (fun N a w' hN hf hS => ⟨⟨(0, f, elsewhere [] [] w), ⟨Nat.zero_le _, fun j _ => ⟨(f j).vp, (f j).vc, rfl⟩, fun j hj => absurd hj (Nat.not_lt_zero _), fun _ _ => rfl, fun _ _ _ h => h, fun j hj => absurd hj (Nat.not_lt_zero _), hold⟩⟩, ?_⟩) (fun i q hq => ?_)
  · exact At.same hN hf hS (Nat.zero_le _) ⟨⟨_, rfl, .inl ⟨rfl, rfl⟩⟩, ⟨_, rfl, .inl ⟨rfl, rfl⟩⟩, ⟨_, rfl, .inr ⟨_, rfl, rfl⟩⟩, trivial⟩ trivial
  obtain ⟨⟨i, f', m⟩, hi⟩ := i
  refine X.go T39_ok 400 _ rfl Try.results39 ?_
  conv => arg 2; cbv
  refine X.cond rfl (fun hlt => ?_) (fun hge => ?_)
  · simp only [SB.T, SI.den] at hlt
    have hlt : i < n := by omega
    have hfi : f' i = f i := hi.not i (Nat.le_refl _)
    obtain ⟨z, hz⟩ : ∃ z, z = y + i * 18 := ⟨_, rfl⟩
    refine X.go T39_ok 400 _ rfl Try.results39 ?_
    conv => arg 2; cbv
    refine X.idxSlv rfl rfl rfl rfl rfl Try.underlying71 Try.sizeOf93 i rfl hlt b y z (hp0 i hlt) hz rfl ?_
    refine X.go T39_ok 400 _ rfl Try.results39 ?_
    conv => arg 2; cbv
    refine X.load1R T39_ok (r := .slv (f i).vp (f i).vn (f i).vc) rfl rfl rfl rfl rfl rfl (fun N w2 _ hw => ⟨_, rfl, by
      have := (hw i hlt).2 17 (.slice (f i).vp (f i).vn (f i).vc) (by show (f' i).vals[17]? = _; rw [hfi]; rfl)
      rw [show z + 17 = y + (i * 18 + 17) by omega]; exact this.1⟩) rfl ?_
    refine X.go T39_ok 400 _ rfl Try.results39 ?_
    conv => arg 2; cbv
    refine X.call rfl rfl rfl rfl Try.call68 (fun N w2 args hN hS ha => ?_)
    have ha' : [Value.slice (f i).vp (f i).vn (f i).vc] = args := Option.some.inj (ha ▸ rfl : some _ = some args)
    subst ha'
    have hm : ∀ k o v, w.cell? ⟨k, o, none⟩ = some v → w2.cell? ⟨k, o, none⟩ = some v := fun k o v h => hS.imm k o v (hi.old _ _ _ (by rw [else0]; exact h))
    refine (cloneI_ok _ _ _ (G i) w2 (hG i hlt).2 ((hG i hlt).1.at hm)).mono fun e w' ⟨⟨p2, c2, he, hI, hfar⟩, hc⟩ => ⟨_, he, Goes.grow (arrD b y (n * 18)) (ArrAt b y 18 n (fun j => (f' j).vals)) hN hS (hc.mono fun _ _ _ h => h.elim) (fun k o h => hO k o h) hi.out (fun g h => by cases h) (fun q z h => ⟨.inl h, by
      obtain ⟨v, hv⟩ := Option.isSome_iff_exists.1 (hS.dlt q z h)
      rw [cell_of_chg hc (by simp) hv]; rfl⟩) ArrAt.loc (ArrAt.stays hS.res hc) (r := .slv p2 (f i).vn c2) rfl rfl (fun hg1 hg2 => ?_)⟩
    have hdl : ∀ k o, arrD b y (n * 18) k o → k < w2.heap.size := fun k o h => by
      obtain ⟨v, hv⟩ := Option.isSome_iff_exists.1 (hS.dlt k o h)
      exact World.block_lt_of_cell? _ _ hv
    have hI2 : IntsM p2 (f i).vn (G i) (Eng.grow m (arrD b y (n * 18)) w2 w') := hI.grown hfar hdl hg2
    obtain ⟨m2, hm2⟩ : ∃ m2, m2 = Eng.grow m (arrD b y (n * 18)) w2 w' := ⟨_, rfl⟩
    have hmm : ∀ k o v, m k o = some v → m2 k o = some v := fun k o v h => by rw [hm2]; exact grow_old h
    have hout : ∀ k o, arrD b y (n * 18) k o → m2 k o = none := fun k o h => by rw [hm2]; exact hg1 k o h
    rw [← hm2] at hI2
    have hfar3 : ∀ a, p2 = some a → 0 < (f i).vn → w.heap.size ≤ a.block := fun a h1 h2 => Nat.le_trans hS.chg.size (hfar a h1 h2)
    show X (mkE Try.prog Try.f39 Q w (InR [] []) (Eng.grow m (arrD b y (n * 18)) w2 w') (arrD b y (n * 18)) (ArrAt b y 18 n (fun j => (f' j).vals)) [] B39) _ _
    rw [← hm2]
    clear hm2 hg1 hg2 hfar hI hc he hdl hm hS hN ha
    refine X.go T39_ok 400 _ rfl Try.results39 ?_
    conv => arg 2; cbv
    refine X.idxSlv rfl rfl rfl rfl rfl Try.underlying71 Try.sizeOf93 i rfl hlt b y z (hp0 i hlt) hz rfl ?_
    refine X.go T39_ok 400 _ rfl Try.results39 ?_
    conv => arg 2; cbv
    refine X.storeR T39_ok (ArrAt b y 18 n (fun j => (updA f' i { f i with vp := p2, vc := c2 } j).vals)) rfl rfl rfl rfl rfl rfl rfl rfl (fun j hj => ⟨rfl, ?_, ?_⟩) hO hout (by simp) (fun w1 hw j hj => ?_) (fun N w1 vs _ hw hvs => ?_) ArrAt.loc rfl ?_
    · show y ≤ z + 17 + j; omega
    · have hj : j < 1 := hj
      show z + 17 + j < y + n * 18; omega
    · have hj : j < 1 := hj
      obtain rfl : j = 0 := by omega
      have := (hw i hlt).2 17 (.slice (f i).vp (f i).vn (f i).vc) (by show (f' i).vals[17]? = _; rw [hfi]; rfl)
      rw [show y + (i * 18 + 17) = z + 17 + 0 by omega] at this
      rw [this.1]; exact ⟨rfl, this.2⟩
    · have hvs : [Value.slice p2 (f i).vn c2] = vs := Option.some.inj hvs
      subst hvs
      have := ArrAt.put hw (i := i) (j0 := 17) (vs := [.slice p2 (f i).vn c2]) (row := Ent.vals { f i with vp := p2, vc := c2 }) hlt (by show _ = (f' i).vals.take 17 ++ _ ++ (f' i).vals.drop _; rw [hfi]; rfl) (by show 17 + 1 ≤ 18; omega)
      rw [upd_vals, show y + (i * 18 + 17) = z + 17 by omega] at this
      exact this
    show X (mkE Try.prog Try.f39 Q w (InR [] []) m2 (arrD b y (n * 18)) (ArrAt b y 18 n (fun j => (updA f' i { f i with vp := p2, vc := c2 } j).vals)) [] B39) _ _
    refine X.go T39_ok 400 _ rfl Try.results39 ?_
    conv => arg 2; cbv
    refine X.back (fun N a w' hN hf hS => hq ⟨(i + 1, updA f' i { f i with vp := p2, vc := c2 }, m2), ⟨by simp only; omega, fun j hj => ?_, fun j hj => ?_, fun j hj => ?_, fun k o v h => hmm _ _ _ (hi.old _ _ _ h), fun j hj => ?_, hout⟩⟩ a w' (by show n - (i + 1) < n - i; omega) ?_)
    · unfold updA
      by_cases e : j = i
      · subst e; simp only [if_true]; exact ⟨p2, c2, rfl⟩
      · simp only [e, if_false]; exact hi.like j hj
    · simp only at hj ⊢
      unfold updA
      by_cases e : j = i
      · subst e; simp only [if_true]; exact hI2
      · simp only [e, if_false]; exact (hi.got j (by simp only; omega)).more hmm
    · simp only at hj ⊢
      unfold updA
      rw [if_neg (by omega)]
      exact hi.not j (by simp only; omega)
    · simp only at hj ⊢
      unfold updA
      by_cases e : j = i
      · subst e; simp only [if_true]; exact hfar3
      · simp only [e, if_false]; exact hi.far j (by simp only; omega)
    · exact At.same hN hf hS (Nat.zero_le _) ⟨⟨_, rfl, .inl ⟨rfl, rfl⟩⟩, ⟨_, rfl, .inl ⟨rfl, rfl⟩⟩, ⟨_, rfl, .inr ⟨_, rfl, by simp [SV.den, SI.den, hwrap64s i (by omega)]⟩⟩, trivial⟩ trivial
  · simp only [SB.F, SI.den] at hge
    have hin : i = n := by have := hi.le; simp only at this; omega
    refine X.go T39_ok 400 _ rfl Try.results39 ?_
    conv => arg 2; cbv
    refine X.done T39_ok rfl (fun N w' v hN hS hv => ?_)
    simp only [resV, SV.den, Option.some.injEq] at hv
    rw [hQ]
    exact ⟨⟨p', c', b, y, f', by rw [← hv], hpb', hS.res, (fun j hj => ⟨hi.like j hj, (hi.got j (by simp only; omega)).in hS.imm, hi.far j (by simp only; omega)⟩), hcap⟩, hS.chg.none⟩

end Go.Proofs.Ytcfghkiokdbhjaa
