/- The ring's laws: calls under a guard; strings; sameness; awake. -/
import Derived.Test.YthaffebapmkppaaRi9
import Derived.Laws.BytesArg
import Derived.Lib.Bytes

namespace Go.Proofs.Ythaffebapmkppaa
open Go Go.Eng Go.Sort

section
variable {E : Ctx}
theorem X.callG {all : Array Oper} {i : Nat} {rest : List Nat} {k : List It} {s : St} {o : Oper} {g : FuncId} {xs : Array Operand} {ts : Array TypeId} {l : List SV} (ho : nth all.toList i = some o) (hgd : gdOf all s.fr o = some .yes)
    (hop : o.op = .call { callee := .value (.func g), args := xs, argTypes := ts }) (hl : evL s.fr xs.toList = some l) (hb : ∀ args w, (callFunc g args).run E.P w = .ok (.enter g args) w)
    (h : ∀ (N : Nums) (w : World) (args : List Value), E.N0.le N → Sat E.toEnv N s.rg w → SV.denL N l = some args →
      Calls E.P g args.toArray w fun e w' => ∃ v, e = .returned v ∧ Goes E N (.ops all rest :: k) s.fr o.dst v w') : X E (.ops all (i :: rest) :: k) s := by
  intro N a w hN hfr hS
  show wpOps _ _ _ _ _ _
  have ho' : all[i]? = some o := by rw [nth_eq] at ho; simpa using ho
  have hw : Region.wanted o (yielded all a.tmps) = true := gdOf_sound hfr hgd
  simp only [wpOps, ho', hw, if_true]
  refine .inl ?_
  have hargs := evL_sound hfr _ hl
  have hc := h N w _ hN hS hargs
  have hrun : (execOp a.eval o).run E.P w = .ok (.enter g (xs.toList.map a.eval).toArray) w := by
    simp only [execOp, hop, resolve, Act.eval, Deferred.ofValue, Sem.run_bind, Sem.run_pure, Result.andThen, invoke]
    rw [hb]
    congr 2
    apply Array.ext'
    simp
  unfold Oper.wp
  rw [hrun]
  refine Calls.mono hc fun e w' ⟨v, he, E', N', r, rg', f', h1, h2, h3, hB, h4, h5, h6, h7, h8, h9⟩ => ?_
  subst he
  have := h9 N' (a.put o.dst v) w' h5 (by rw [h2]; exact putO_sound (hfr.mono h4) h7 h8) h6
  rw [h1, h3, hB] at this
  exact this
end

/-- a point, loaded -/
theorem vk_ld2 {E : Env} {N0 : Nums} {rg : List Rg} {f : Fr} {g : GK} {t : TypeId} {x : Operand} {b y : Nat} {r0 r1 : SV} {v0 v1 : Value} (hx : evK f g x = some (.ext b y 0)) (ha : ∀ w, (isAgg t).run E.P w = .ok true w) (hs : ∀ w, (sizeOf t).run E.P w = .ok 2 w) (h0 : ∀ N, r0.den N = some v0) (h1 : ∀ N, r1.den N = some v1)
    (hi : g.T → E.im b y = some v0 ∧ E.im b (y + 1) = some v1) : ValOk E N0 rg f g (.load t x) (.agg [r0, r1]) := by
  intro ht N ρ o w hN0 hop hρ hV
  have e1 := hρ _ _ hx
  simp only [SV.den, Option.some.injEq, Nat.add_zero] at e1
  obtain ⟨i0, i1⟩ := hi ht
  refine ⟨.agg #[v0, v1], by simp [SV.den, SV.denL, h0 N, h1 N], fun w' hV' => ?_⟩
  have c0 := hV'.2 _ _ _ i0
  have c1 := hV'.2 _ _ _ i1
  have hrun : (loadCells ⟨b, y, none⟩ 2).run E.P w' = .ok #[v0, v1] w' := run_loadCells_list (P := E.P) w' ⟨b, y, none⟩ [v0, v1] (fun j v hj => by
    rw [addr_add]
    match j, hj with
    | 0, hj => simp at hj; subst hj; exact c0
    | 1, hj => simp at hj; subst hj; exact c1)
  simp only [execOp, hop, ← e1, Instr.loadAt, Instr.sureAddr, loadVar, Sem.run_bind, Sem.run_pure, Result.andThen, ha, if_true, hs, hrun]

set_option maxHeartbeats 4000000 in
set_option maxRecDepth 100000 in
set_option cbv.maxSteps 100000000 in
theorem same_ok (b1 o1 b2 o2 m c1 c2 : Nat) (p1 p2 : Option Addr) (L : List (Int × Int)) (w : World) (hp1 : 0 < m → p1 = some ⟨b1, o1, none⟩) (hp2 : 0 < m → p2 = some ⟨b2, o2, none⟩) (hm : L.length = m) (hle : m ≤ 8000) (h1 : PtIn b1 o1 L w) (h2 : PtIn b2 o2 L w) :
    Calls Try.prog 15 #[.slice p1 m c1, .slice p2 m c2] w fun e w' => e = .returned (.bool true) ∧ Chg (fun _ _ => False) w w' := by
  obtain ⟨Q, hQ⟩ : ∃ Q : Ending → World → Prop, Q = fun e w' => e = .returned (.bool true) ∧ Chg (fun _ _ => False) w w' := ⟨_, rfl⟩
  rw [← hQ]
  refine X.begin (rg := []) (N := []) (ss := [.slv p1 m c1, .slv p2 m c2]) Try.func15 rfl B15_ok rfl rfl Sat.std0 ?_
  refine X.go T15_ok 400 _ rfl Try.results15 ?_
  conv => arg 2; cbv
  refine X.cond rfl (fun hne => ?_) (fun _ => ?_)
  · simp only [SB.T, SI.den] at hne
    omega
  refine X.go T15_ok 400 _ rfl Try.results15 ?_
  conv => arg 2; cbv
  refine X.loop (fun _ : {i : Nat // i ≤ m} => mkE Try.prog Try.f15 Q w (InR [] []) (elsewhere [] [] w) (fun _ _ => False) (fun _ => True) [] B15)
    (fun g => ⟨[(0, .val (.slv p1 m c1)), (1, .val (.slv p2 m c2)), (5, .val (.int .i64 (.nat g.1)))], []⟩) (fun g => m - g.1) (fun _ => ⟨rfl, rfl, rfl, rfl⟩) (fun N ac w' hN hf hS => ⟨⟨0, Nat.zero_le _⟩, ?_⟩) (fun g q hq => ?_)
  · exact At.again hf hS (by repeat first | exact trivial | refine ⟨⟨_, rfl, .inl ⟨rfl, rfl⟩⟩, ?_⟩ | refine ⟨⟨_, rfl, .inr ⟨_, rfl, rfl⟩⟩, ?_⟩ | refine ⟨⟨_, rfl, .inr ⟨_, rfl, by simp (disch := omega) [SV.den, SI.den, wrapU, wrapD] <;> omega⟩⟩, ?_⟩) trivial
  obtain ⟨i, hi⟩ := g
  show X (mkE Try.prog Try.f15 Q w (InR [] []) (elsewhere [] [] w) (fun _ _ => False) (fun _ => True) [] B15) _ ⟨[(0, .val (.slv p1 m c1)), (1, .val (.slv p2 m c2)), (5, .val (.int .i64 (.nat i)))], []⟩
  refine X.go T15_ok 400 _ rfl Try.results15 ?_
  conv => arg 2; cbv
  refine X.cond rfl (fun hlt => ?_) (fun hge => ?_)
  · simp only [SB.T, SI.den] at hlt
    have hlt : i < m := by omega
    obtain ⟨x, hx⟩ : ∃ x, x = L[i]! := ⟨_, rfl⟩
    obtain ⟨x1, x2⟩ := x
    obtain ⟨q1, hq1⟩ : ∃ q, q = o1 + i * 2 := ⟨_, rfl⟩
    obtain ⟨q2, hq2⟩ : ∃ q, q = o2 + i * 2 := ⟨_, rfl⟩
    have a1 := h1 i (by omega)
    have a2 := h2 i (by omega)
    rw [← hx, ← hq1] at a1
    rw [← hx, ← hq2] at a2
    refine X.goP ([(19, .ext b1 q1 0), (20, .agg [.int .u64 (.v x1), .int .u8 (.v x2)]), (23, .ext b2 q2 0), (24, .agg [.int .u64 (.v x1), .int .u8 (.v x2)])]) T15_ok 400 _ rfl Try.results15 (fun pr fin hpr hfin => ?_)
    conv => cbv
    have l1 : elsewhere [] [] w b1 q1 = some (.int .u64 x1) ∧ elsewhere [] [] w b1 (q1 + 1) = some (.int .u8 x2) := by rw [els_old, els_old]; exact a1
    have l2 : elsewhere [] [] w b2 q2 = some (.int .u64 x1) ∧ elsewhere [] [] w b2 (q2 + 1) = some (.int .u8 x2) := by rw [els_old, els_old]; exact a2
    refine ⟨hpr _ (vk_ld2 rfl Try.isAgg52 Try.sizeOf52 (fun _ => rfl) (fun _ => rfl) fun _ => l2), hpr _ (vk_ld2 rfl Try.isAgg52 Try.sizeOf52 (fun _ => rfl) (fun _ => rfl) fun _ => l1), hpr _ (ValOk.at (z := i) rfl rfl (fun _ => rfl) Try.underlying27 Try.sizeOf52 (fun _ => hlt) (hp2 (by omega)) hq2), hpr _ (ValOk.at (z := i) rfl rfl (fun _ => rfl) Try.underlying27 Try.sizeOf52 (fun _ => hlt) (hp1 (by omega)) hq1), hfin _ _ ?_⟩
    refine X.cond rfl (fun hne => ?_) (fun _ => ?_)
    · simp [SB.T, SB.F, SI.den] at hne
    refine X.go T15_ok 400 _ rfl Try.results15 ?_
    conv => arg 2; cbv
    refine X.back (fun N ac w' hN hf hS => hq ⟨i + 1, by omega⟩ ac w' (by simp only; omega) ?_)
    exact At.again hf hS (by repeat first | exact trivial | refine ⟨⟨_, rfl, .inl ⟨rfl, rfl⟩⟩, ?_⟩ | refine ⟨⟨_, rfl, .inr ⟨_, rfl, rfl⟩⟩, ?_⟩ | refine ⟨⟨_, rfl, .inr ⟨_, rfl, by simp (disch := omega) [SV.den, SI.den, wrapU, wrapD] <;> omega⟩⟩, ?_⟩) trivial
  · simp only [SB.F, SI.den] at hge
    refine X.go T15_ok 400 _ rfl Try.results15 ?_
    conv => arg 2; cbv
    refine X.done T15_ok rfl (fun N w' v hN hS hv => ?_)
    rw [hQ]
    exact ⟨fin_bool hv rfl, hS.chg.none⟩

/-! ### awake -/
theorem keepGo_one {R : Nat → Int} {x : Int} (hR : ∀ i, R i = x) (many : Int) : ∀ (k i : Nat), keepGo R many k i [x] = [x]
  | 0, _ => rfl
  | k + 1, i => by
    unfold keepGo
    split
    · rfl
    · rw [if_pos (by rw [hR i]; exact List.mem_singleton.2 rfl)]
      exact keepGo_one hR many k (i + 1)

theorem of7 : (ofL #[7] 1).length = 1 := by
  have hlen : (ringP #[7]).length = 8 := by
    rw [(ringP_perm _).length_eq, ← ringTo_all, ringTo_len _ _ (Nat.le_refl _)]
    simp [ascA, srtA, Go.Lib.compactUpTo, Go.Lib.keeps]
  have hall : ∀ i, nodeAt (ringP #[7]) (atP (ringP #[7]) (keyZ 1)) i = 7 := fun i => by
    unfold nodeAt
    obtain ⟨j, hj⟩ : ∃ j, j = (atP (ringP #[7]) (keyZ 1) + i) % (ringP #[7]).length := ⟨_, rfl⟩
    rw [← hj]
    have hj8 : j < (ringP #[7]).length := by rw [hj]; exact Nat.mod_lt _ (by omega)
    have := ringP_node (d := #[7]) (y := (ringP #[7])[j]!) (by rw [getElem!_pos _ j hj8]; exact List.getElem_mem _)
    simpa using this
  have hk : keepL (ringP #[7]) 1 3 = [7] := by
    unfold keepL
    rw [hlen, keepGo, if_neg (by simp), if_neg (by simp), hall 0]
    exact keepGo_one hall 3 7 1
  rw [ofL, hk]
  simp [srtA]

set_option maxHeartbeats 4000000 in
set_option maxRecDepth 100000 in
set_option cbv.maxSteps 100000000 in
theorem awake_ok (w : World) : Calls Try.prog 11 #[] w fun e w' => e = .returned (.bool true) ∧ Chg (fun _ _ => False) w w' := by
  refine X.begin (rg := []) (N := []) (ss := []) Try.func11 rfl B11_ok rfl rfl Sat.std0 ?_
  refine X.go T11_ok 400 _ rfl Try.results11 ?_
  conv => arg 2; cbv
  refine X.call rfl rfl rfl rfl Try.call14 (fun N w1 args hN hS ha => ?_)
  have ha : args = [.slice none 0 0, .int .u8 1, .int .i64 3] := (Option.some.inj ha).symm
  rw [ha]
  refine (keepers_ok 0 0 0 0 none [] 1 3 w1 (fun h => absurd h (Nat.lt_irrefl 0)) rfl (by omega) (fun j hj => absurd hj (Nat.not_lt_zero _)) (fun a b _ hb => absurd hb (Nat.not_lt_zero _)) (fun _ h => absurd h List.not_mem_nil)).mono fun e w2 ⟨p, c, he, hc, hr, hch⟩ => ⟨_, he, ?_⟩
  rw [show keepL [] 1 3 = [] from rfl] at hr ⊢
  obtain ⟨rfl, rfl⟩ : p = none ∧ c = 0 := by
    rcases hr with h | ⟨h, _⟩
    · exact h.2
    · exact absurd rfl h
  refine Goes.same hN hS hch (r := .raw (.slice none 0 0)) rfl rfl ?_
  refine X.go T11_ok 400 _ rfl Try.results11 ?_
  conv => arg 2; cbv
  refine X.callG rfl rfl rfl rfl Try.call12 (fun N w1 args hN hS ha => ?_)
  obtain ⟨p, hp⟩ : ∃ p, N[0]? = some p := ⟨_, List.getElem?_eq_getElem (by rw [hS.len]; simp)⟩
  obtain ⟨c, ha⟩ : ∃ c, args = [.slice (some ⟨p.b, p.o, none⟩) 1 c, .int .u8 1] := by
    simp only [SV.denL, SV.den, SI.den, hp] at ha
    exact ⟨_, (Option.some.inj ha).symm⟩
  rw [ha]
  have hb : InB (some ⟨p.b, p.o, none⟩) 1 #[7] w1 := ⟨rfl, fun _ => ⟨p.b, p.o, rfl, fun j hj => by
    have : j = 0 := by simpa using hj
    subst this
    obtain ⟨_, e0, c0⟩ := hS.cell 0 _ p rfl hp 0 _ rfl
    simp only [SV.den, SI.den, Option.some.injEq] at e0
    subst e0
    exact c0⟩⟩
  refine (of_ok _ 1 c #[7] 1 w1 (by omega) hb (by simp)).mono fun e w2 ⟨p2, c2, he, hc2, hr, hch⟩ => ⟨_, he, ?_⟩
  rw [of7]
  refine Goes.same hN hS hch (r := .slv p2 1 c2) rfl rfl ?_
  refine X.go T11_ok 400 _ rfl Try.results11 ?_
  conv => arg 2; cbv
  refine X.done T11_ok rfl (fun N w' v hN hS hv => ?_)
  exact ⟨fin_bool hv rfl, hS.chg.none⟩

end Go.Proofs.Ythaffebapmkppaa
