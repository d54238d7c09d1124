/- Configurations: rows joined (slices.Grow, slices.Concat). Configurations: all keepers. Configurations: all keepers; the law's helpers. Configurations: a quorum's others, and its like: the law ConfOther. Configurations: the law ConfQuorums. Configurations: a step's search. Configurations: the document's step. Configurations: the document's likeness. Configurations: a step's outcome may be. Configurations: the law ConfSteps, given conf.Step's contract. Configurations: the law ConfMeet, given conf.Step's contract. Configurations: a step's list, by its place. Configurations: a clone, as a row of one's own. -/
import Derived.Test.YthaffebapmkppaaCf5

namespace Go.Proofs.Ythaffebapmkppaa
open Go Go.Eng Go.Sort

theorem vk_cap_nil {E : Env} {N0 : Nums} {rg : List Rg} {f : Fr} {g : GK} {x : Operand} {ts e : Nat} (hx : evK f g x = some (.raw (.slice none 0 0))) (hu : E.P.underlying ts = some (.slice e)) : ValOk E N0 rg f g (.call { callee := .builtin .cap, args := #[x], argTypes := #[ts] }) (.int .i64 (.lit 0)) := by
  intro ht N ρ op w hN0 hop hρ hV
  have h1 := hρ _ _ hx
  simp [SV.den, one?] at h1
  refine ⟨.int .i64 0, rfl, fun w' _ => ?_⟩
  have h2 : (Builtin.cap_ #[ts] op.type #[.slice none 0 0]).run E.P w' = .ok (.int .i64 0) w' := by simp [Builtin.cap_, run_underlying hu, Result.andThen, goInt]
  simp [execOp, hop, resolve, invoke, builtin, ← h1, h2]
theorem vk_slice_nil {E : Env} {N0 : Nums} {rg : List Rg} {f : Fr} {g : GK} {t e q : TypeId} {x hi : Operand} {kd : IntKind} {s : SI} (hx : evK f g x = some (.raw (.slice none 0 0))) (hhi : evK f g hi = some (.int kd s)) (hz : s.den = 0) (hu : E.P.underlying t = some (.slice e)) (hq : ∀ w, (sizeOf e).run E.P w = .ok q w) : ValOk E N0 rg f g (.slice t x none (some hi) none) (.raw (.slice none 0 0)) := by
  intro ht N ρ op w hN0 hop hρ hV
  have e1 := hρ _ _ hx
  have e2 := hρ _ _ hhi
  simp only [SV.den, one?, if_true, Option.some.injEq] at e1 e2
  refine ⟨.slice none 0 0, by simp [SV.den, one?], fun w' _ => ?_⟩
  have hb := run_sliceBounds (P := E.P) (w := w') (ρ' := ρ) (b := true) (len := 0) (cap := 0) (lo := none) (hi := some hi) (mx := none) (l := none) (h := some 0) (m := none) (.inl ⟨rfl, rfl⟩) (.inr ⟨kd, 0, by simp [← e2, hz], rfl⟩) (.inl ⟨rfl, rfl⟩)
    (by simp) (by simp) (by simp) (by simp)
  simp only [Option.map_none, Option.map_some, Option.getD_none, Option.getD_some] at hb
  simp [execOp, hop, ← e1, Instr.sliceAt, run_underlying hu, Result.andThen, Instr.slice, hb, hq]

/-- a row of one's own, handed back -/
theorem freshRet_of {P : Program} {fn : Func} {Q : Ending → World → Prop} {W : World} {im : Mem} {D : Nat → Nat → Prop} {Rr : World → Prop} {N0 : Nums} {B : SchT} {N : Nums} {rg : List Rg} {w' : World} {r n z : Nat} {cs cs' : List SV} {v : Value} (hS : Sat (mkE P fn Q W (InR [] []) im D Rr N0 B).toEnv N rg w') (hr : rg[r]? = some ⟨true, cs, none⟩) (h0 : 0 < cs.length) (hp : cs' <+: cs) (hc : ∀ c ∈ cs', ∀ (N N' : Nums) (v : Value), c.den N = some v → c.den N' = some v)
    (hv : (SV.osl r 0 n z none).den N = some v) : FreshRet cs' n z W (.returned v) w' := by
  obtain ⟨p, hpn⟩ : ∃ p, N[r]? = some p := ⟨_, List.getElem?_eq_getElem (by rw [hS.len]; exact (List.getElem?_eq_some_iff.1 hr).1)⟩
  simp only [SV.den, hpn, Num.cap, Nat.add_zero, Nat.sub_zero, Option.some.injEq] at hv
  have hx := hS.ext r _ p hr hpn rfl
  simp only at hx
  have hl := hp.length_le
  refine ⟨p.b, p.o, p.x, by rw [← hv], ?_, by omega, by omega, fun j c hj => ?_, fun j hj => hS.room r _ p hr hpn rfl j hj, hS.chg.none⟩
  · rcases hS.foot r _ p hr hpn rfl with h | h
    · exact h
    · exact absurd (h 0 (by omega)) (fun h => inR_nil h)
  · obtain ⟨t, rfl⟩ := hp
    have hjl := (List.getElem?_eq_some_iff.1 hj).1
    obtain ⟨v, h1, h2⟩ := hS.cell r _ p hr hpn j c (by rw [List.getElem?_append_left hjl]; exact hj)
    exact ⟨v, hc c (List.mem_of_getElem? hj) _ _ v h1, h2⟩

set_option maxHeartbeats 8000000 in
set_option maxRecDepth 100000 in
set_option cbv.maxSteps 100000000 in
theorem grow1_ok (w : World) : Calls Try.prog 69 #[.slice none 0 0, .int .i64 1] w (FreshRet [] 0 1 w) := by
  refine X.begin (rg := []) (N := []) (ss := [.raw (.slice none 0 0), .int .i64 (.lit 1)]) Try.func69 rfl B69_ok rfl rfl Sat.std0 ?_
  refine X.goP ([(10, .int .i64 (.lit 0)), (19, .int .i64 (.lit 0)), (20, .raw (.slice none 0 0))]) T69_ok 400 _ rfl Try.results69 (fun pr fin hpr hfin => ?_)
  conv => cbv
  refine ⟨hpr _ (vk_slice_nil rfl rfl rfl Try.underlying22 Try.sizeOf5), hpr _ (vk_cap_nil rfl Try.underlying22), hpr _ (vk_cap_nil rfl Try.underlying22), hfin _ _ ?_⟩
  refine X.done T69_ok rfl (fun N w' v hN hS hv => freshRet_of hS (r := 0) rfl (Nat.succ_pos _) (List.nil_prefix) (fun c hc => absurd hc List.not_mem_nil) hv)

set_option maxHeartbeats 8000000 in
set_option maxRecDepth 100000 in
set_option cbv.maxSteps 100000000 in
theorem grow2_ok (w : World) : Calls Try.prog 69 #[.slice none 0 0, .int .i64 2] w (FreshRet [] 0 1 w) := by
  refine X.begin (rg := []) (N := []) (ss := [.raw (.slice none 0 0), .int .i64 (.lit 2)]) Try.func69 rfl B69_ok rfl rfl Sat.std0 ?_
  refine X.goP ([(10, .int .i64 (.lit 0)), (19, .int .i64 (.lit 0)), (20, .raw (.slice none 0 0))]) T69_ok 400 _ rfl Try.results69 (fun pr fin hpr hfin => ?_)
  conv => cbv
  refine ⟨hpr _ (vk_slice_nil rfl rfl rfl Try.underlying22 Try.sizeOf5), hpr _ (vk_cap_nil rfl Try.underlying22), hpr _ (vk_cap_nil rfl Try.underlying22), hfin _ _ ?_⟩
  refine X.done T69_ok rfl (fun N w' v hN hS hv => freshRet_of hS (r := 0) rfl (Nat.succ_pos _) (List.nil_prefix) (fun c hc => absurd hc List.not_mem_nil) hv)

set_option maxHeartbeats 8000000 in
set_option maxRecDepth 100000 in
set_option cbv.maxSteps 100000000 in
theorem grow3_ok (w : World) : Calls Try.prog 69 #[.slice none 0 0, .int .i64 3] w (FreshRet [] 0 1 w) := by
  refine X.begin (rg := []) (N := []) (ss := [.raw (.slice none 0 0), .int .i64 (.lit 3)]) Try.func69 rfl B69_ok rfl rfl Sat.std0 ?_
  refine X.goP ([(10, .int .i64 (.lit 0)), (19, .int .i64 (.lit 0)), (20, .raw (.slice none 0 0))]) T69_ok 400 _ rfl Try.results69 (fun pr fin hpr hfin => ?_)
  conv => cbv
  refine ⟨hpr _ (vk_slice_nil rfl rfl rfl Try.underlying22 Try.sizeOf5), hpr _ (vk_cap_nil rfl Try.underlying22), hpr _ (vk_cap_nil rfl Try.underlying22), hfin _ _ ?_⟩
  refine X.done T69_ok rfl (fun N w' v hN hS hv => freshRet_of hS (r := 0) rfl (Nat.succ_pos _) (List.nil_prefix) (fun c hc => absurd hc List.not_mem_nil) hv)

set_option maxHeartbeats 8000000 in
set_option maxRecDepth 100000 in
set_option cbv.maxSteps 100000000 in
theorem grow4_ok (w : World) : Calls Try.prog 69 #[.slice none 0 0, .int .i64 4] w (FreshRet [] 0 1 w) := by
  refine X.begin (rg := []) (N := []) (ss := [.raw (.slice none 0 0), .int .i64 (.lit 4)]) Try.func69 rfl B69_ok rfl rfl Sat.std0 ?_
  refine X.goP ([(10, .int .i64 (.lit 0)), (19, .int .i64 (.lit 0)), (20, .raw (.slice none 0 0))]) T69_ok 400 _ rfl Try.results69 (fun pr fin hpr hfin => ?_)
  conv => cbv
  refine ⟨hpr _ (vk_slice_nil rfl rfl rfl Try.underlying22 Try.sizeOf5), hpr _ (vk_cap_nil rfl Try.underlying22), hpr _ (vk_cap_nil rfl Try.underlying22), hfin _ _ ?_⟩
  refine X.done T69_ok rfl (fun N w' v hN hS hv => freshRet_of hS (r := 0) rfl (Nat.succ_pos _) (List.nil_prefix) (fun c hc => absurd hc List.not_mem_nil) hv)

set_option maxHeartbeats 8000000 in
set_option maxRecDepth 100000 in
set_option cbv.maxSteps 100000000 in
theorem grow5_ok (w : World) : Calls Try.prog 69 #[.slice none 0 0, .int .i64 5] w (FreshRet [] 0 1 w) := by
  refine X.begin (rg := []) (N := []) (ss := [.raw (.slice none 0 0), .int .i64 (.lit 5)]) Try.func69 rfl B69_ok rfl rfl Sat.std0 ?_
  refine X.goP ([(10, .int .i64 (.lit 0)), (19, .int .i64 (.lit 0)), (20, .raw (.slice none 0 0))]) T69_ok 400 _ rfl Try.results69 (fun pr fin hpr hfin => ?_)
  conv => cbv
  refine ⟨hpr _ (vk_slice_nil rfl rfl rfl Try.underlying22 Try.sizeOf5), hpr _ (vk_cap_nil rfl Try.underlying22), hpr _ (vk_cap_nil rfl Try.underlying22), hfin _ _ ?_⟩
  refine X.done T69_ok rfl (fun N w' v hN hS hv => freshRet_of hS (r := 0) rfl (Nat.succ_pos _) (List.nil_prefix) (fun c hc => absurd hc List.not_mem_nil) hv)

set_option maxHeartbeats 8000000 in
set_option maxRecDepth 100000 in
set_option cbv.maxSteps 100000000 in
theorem grow6_ok (w : World) : Calls Try.prog 69 #[.slice none 0 0, .int .i64 6] w (FreshRet [] 0 1 w) := by
  refine X.begin (rg := []) (N := []) (ss := [.raw (.slice none 0 0), .int .i64 (.lit 6)]) Try.func69 rfl B69_ok rfl rfl Sat.std0 ?_
  refine X.goP ([(10, .int .i64 (.lit 0)), (19, .int .i64 (.lit 0)), (20, .raw (.slice none 0 0))]) T69_ok 400 _ rfl Try.results69 (fun pr fin hpr hfin => ?_)
  conv => cbv
  refine ⟨hpr _ (vk_slice_nil rfl rfl rfl Try.underlying22 Try.sizeOf5), hpr _ (vk_cap_nil rfl Try.underlying22), hpr _ (vk_cap_nil rfl Try.underlying22), hfin _ _ ?_⟩
  refine X.done T69_ok rfl (fun N w' v hN hS hv => freshRet_of hS (r := 0) rfl (Nat.succ_pos _) (List.nil_prefix) (fun c hc => absurd hc List.not_mem_nil) hv)

set_option maxHeartbeats 8000000 in
set_option maxRecDepth 100000 in
set_option cbv.maxSteps 100000000 in
theorem grow0_ok (w : World) : Calls Try.prog 69 #[.slice none 0 0, .int .i64 0] w fun e w' => e = .returned (.slice none 0 0) ∧ Chg (fun _ _ => False) w w' := by
  refine X.begin (rg := []) (N := []) (ss := [.raw (.slice none 0 0), .int .i64 (.lit 0)]) Try.func69 rfl B69_ok rfl rfl Sat.std0 ?_
  refine X.goP ([(10, .int .i64 (.lit 0)), (19, .int .i64 (.lit 0)), (20, .raw (.slice none 0 0))]) T69_ok 400 _ rfl Try.results69 (fun pr fin hpr hfin => ?_)
  conv => cbv
  refine ⟨hpr _ (vk_cap_nil rfl Try.underlying22), hfin _ _ ?_⟩
  refine X.done T69_ok rfl (fun N w' v hN hS hv => ?_)
  simp [resV, SV.den, one?] at hv
  exact ⟨by rw [← hv], hS.chg.none⟩

theorem grow_ok (k : Nat) (h0 : 0 < k) (h6 : k ≤ 6) (w : World) : Calls Try.prog 69 #[.slice none 0 0, .int .i64 k] w (FreshRet [] 0 1 w) := by
  match k, h0, h6 with
  | 1, _, _ => exact grow1_ok w
  | 2, _, _ => exact grow2_ok w
  | 3, _, _ => exact grow3_ok w
  | 4, _, _ => exact grow4_ok w
  | 5, _, _ => exact grow5_ok w
  | 6, _, _ => exact grow6_ok w

/-- what is known of memory that stays becomes a region that is only read -/
theorem Sat.addIm {E : Env} {N : Nums} {rg : List Rg} {w : World} (h : Sat E N rg w) {b y x : Nat} {cs : List SV} (h0 : 0 < cs.length) (hcs : ∀ (j : Nat) (c : SV), cs[j]? = some c → ∃ v, (∀ N, c.den N = some v) ∧ E.im b (y + j) = some v) : Sat E (N ++ [⟨b, y, x⟩]) (rg ++ [⟨false, cs, none⟩]) w := by
  have hle : N.le (N ++ [⟨b, y, x⟩]) := Nums.le_append _ _
  have hb : b < w.heap.size := by
    obtain ⟨v, _, h2⟩ := hcs 0 _ (List.getElem?_eq_getElem h0)
    exact World.block_lt_of_cell? _ _ (h.imm _ _ _ h2)
  refine ⟨by simp [h.len], ?_, ?_, ?_, ?_, ?_, ?_, ?_, h.imm, ?_, ?_, h.dlt, h.loc, h.res, h.chg, ?_⟩
  · intro i q hq
    rcases Nat.lt_or_ge i N.length with hi | hi
    · rw [List.getElem?_append_left hi] at hq; exact h.lt i q hq
    · rw [List.getElem?_append_right hi] at hq
      have hz : i - N.length = 0 := by
        have := (List.getElem?_eq_some_iff.1 hq).1
        simp at this; omega
      rw [hz] at hq; simp at hq; subst hq; exact hb
  · intro i g q hg hq j d hj
    rcases get_snoc h.len hg hq with ⟨a, b⟩ | ⟨_, rfl, rfl⟩
    · obtain ⟨v, h1, h2⟩ := h.cell i g q a b j d hj
      exact ⟨v, SV.den_mono hle d h1, h2⟩
    · obtain ⟨v, h1, h2⟩ := hcs j d hj
      exact ⟨v, h1 _, h.imm _ _ _ h2⟩
  · intro i g q hg hq ho
    rcases get_snoc h.len hg hq with ⟨a, b⟩ | ⟨_, rfl, rfl⟩
    · exact h.ext i g q a b ho
    · cases ho
  · intro i g q hg hq ho
    rcases get_snoc h.len hg hq with ⟨a, b⟩ | ⟨_, rfl, rfl⟩
    · exact h.room i g q a b ho
    · cases ho
  · intro i i' g g' q q' hg hq hg' hq' ho hne j hj hb'
    rcases get_snoc h.len hg hq with ⟨a1, a2⟩ | ⟨a0, rfl, rfl⟩
    · rcases get_snoc h.len hg' hq' with ⟨b1, b2⟩ | ⟨b0, rfl, rfl⟩
      · exact h.disj i i' g g' q q' a1 a2 b1 b2 ho hne j hj hb'
      · have hj : j < cs.length := hj
        obtain ⟨v, _, k2⟩ := hcs j _ (List.getElem?_eq_getElem hj)
        simp only at hb' ⊢
        rcases Nat.lt_or_ge (y + j) q.o with k | k
        · exact .inl k
        · rcases Nat.lt_or_ge (y + j) (q.o + q.x) with k3 | k3
          · have := h.imd i g q a1 a2 ho (y + j - q.o) (by omega)
            rw [show q.o + (y + j - q.o) = y + j by omega, ← hb', k2] at this
            cases this
          · exact .inr k3
    · cases ho
  · intro i g q ob hg hq ho
    rcases get_snoc h.len hg hq with ⟨a, b⟩ | ⟨_, rfl, rfl⟩
    · obtain ⟨⟨o', k1, k2⟩, k3⟩ := h.obj i g q ob a b ho
      exact ⟨⟨o', Ob.den_mono hle ob k1, k2⟩, k3⟩
    · simp at ho
  · intro i i' g g' q q' hg hq hg' hq' ho ho' hne
    rcases get_snoc h.len hg hq with ⟨a1, a2⟩ | ⟨a0, rfl, rfl⟩
    · rcases get_snoc h.len hg' hq' with ⟨b1, b2⟩ | ⟨b0, rfl, rfl⟩
      · exact h.odisj i i' g g' q q' a1 a2 b1 b2 ho ho' hne
      · simp at ho'
    · simp at ho
  · intro i g q hg hq ho
    rcases get_snoc h.len hg hq with ⟨a, b⟩ | ⟨_, rfl, rfl⟩
    · exact h.imd i g q a b ho
    · cases ho
  · intro i g q hg hq ho
    rcases get_snoc h.len hg hq with ⟨a, b⟩ | ⟨_, rfl, rfl⟩
    · exact h.dd i g q a b ho
    · cases ho
  · intro i g q hg hq ho
    rcases get_snoc h.len hg hq with ⟨a, b⟩ | ⟨_, rfl, rfl⟩
    · exact h.foot i g q a b ho
    · cases ho
theorem X.addIm {E : Ctx} {k : List It} {f : Fr} (f' : Fr) {rg : List Rg} (b y : Nat) {cs : List SV} (h0 : 0 < cs.length) (hc : ∀ (j : Nat) (c : SV), cs[j]? = some c → ∃ v, (∀ N, c.den N = some v) ∧ E.im b (y + j) = some v)
    (hs : ∀ N : Nums, N.length = rg.length → Sh N (N ++ [⟨b, y, cs.length⟩]) f f') (h : X E k ⟨f', rg ++ [⟨false, cs, none⟩]⟩) : X E k ⟨f, rg⟩ := by
  refine X.conv fun N a w hN hf hS => ?_
  exact ⟨E, ⟨f', rg ++ [⟨false, cs, none⟩]⟩, rfl, rfl, rfl, rfl, ⟨N ++ [⟨b, y, cs.length⟩], hN.trans (Nums.le_append _ _), hf.sh (hs N hS.len), Sat.addIm hS h0 hc⟩, h⟩

/-- the sum of the first rows' lengths -/
theorem flat_take {ls : List (List Int)} {i : Nat} (h : i < ls.length) : (ls.take (i + 1)).flatten = (ls.take i).flatten ++ ls[i]! := by
  rw [List.take_add_one, List.getElem?_eq_getElem h, getElem!_pos ls i h, List.flatten_append]
  simp

set_option maxHeartbeats 8000000 in
set_option maxRecDepth 100000 in
set_option cbv.maxSteps 100000000 in
theorem concat_ok (ls : List (List Int)) (b y m c : Nat) (w : World) (hm : m = ls.length) (hT : ls.flatten.length ≤ 6) (hm8 : m ≤ 1000)
    (hcell : ∀ j, j < m → ∃ p c, w.cell? ⟨b, y + j, none⟩ = some (.slice p ls[j]!.length c) ∧ BytNew ls[j]! 0 (wm w) p c) :
    Calls Try.prog 53 #[.slice (some ⟨b, y, none⟩) m c] w (BytRet ls.flatten w) := by
  obtain ⟨F, hF⟩ : ∃ F, F = ls.flatten := ⟨_, rfl⟩
  obtain ⟨T, hTT⟩ : ∃ T, T = F.length := ⟨_, rfl⟩
  have hT6 : T ≤ 6 := by rw [hTT, hF]; exact hT
  have hpre : ∀ i, (ls.take i).flatten.length ≤ T := fun i => by
    have : ls.flatten.length = (ls.take i).flatten.length + (ls.drop i).flatten.length := by rw [← List.length_append, ← List.flatten_append, List.take_append_drop]
    rw [hTT, hF]
    omega
  obtain ⟨Q, hQ⟩ : ∃ Q : Ending → World → Prop, Q = BytRet F w := ⟨_, rfl⟩
  obtain ⟨pz, hpr0⟩ : ∃ p, p = some (Addr.mk b y none) := ⟨_, rfl⟩
  rw [← hF, ← hQ, ← hpr0]
  refine X.begin (rg := []) (N := []) (ss := [.slv pz m c]) Try.func53 rfl B53_ok rfl rfl Sat.std0 ?_
  obtain ⟨im, him⟩ : ∃ im, im = elsewhere [] [] w := ⟨_, rfl⟩
  have hcell : ∀ j, j < m → ∃ p c, im b (y + j) = some (.slice p ls[j]!.length c) ∧ BytNew ls[j]! 0 im p c := fun j hj => by
    obtain ⟨p, c, h1, h2⟩ := hcell j hj
    exact ⟨p, c, by rw [him, els_old]; exact h1, h2.mono (Nat.le_refl _) fun k o v _ hv => by rw [him, els_old]; exact hv⟩
  show X (mkE Try.prog Try.f53 Q w (InR [] []) (elsewhere [] [] w) (fun _ _ => False) (fun _ => True) [] B53) _ _
  rw [← him]
  refine X.go T53_ok 400 _ rfl Try.results53 ?_
  conv => arg 2; cbv
  refine X.loop (fun _ : {i : Nat // i ≤ m} => mkE Try.prog Try.f53 Q w (InR [] []) im (fun _ _ => False) (fun _ => True) [] B53)
    (fun g => ⟨[(0, .val (.slv pz m c)), (3, .val (.int .i64 (.nat (ls.take g.1).flatten.length))), (9, .val (.slv pz m c)), (10, .val (.int .i64 (.nat m))), (11, .val (.int .i64 (.nat g.1)))], []⟩) (fun g => m - g.1) (fun _ => ⟨rfl, rfl, rfl, rfl⟩) (fun N ac w' hN hf hS => ⟨⟨0, Nat.zero_le _⟩, ?_⟩) (fun g q hq => ?_)
  · exact At.again hf hS (by repeat first | exact trivial | refine ⟨⟨_, rfl, .inl ⟨rfl, rfl⟩⟩, ?_⟩ | refine ⟨⟨_, rfl, .inr ⟨_, rfl, rfl⟩⟩, ?_⟩ | refine ⟨⟨_, rfl, .inr ⟨_, rfl, by simp (disch := omega) [SV.den, SI.den, wrapU, wrapD] <;> omega⟩⟩, ?_⟩) trivial
  obtain ⟨i, hi⟩ := g
  obtain ⟨t, ht⟩ : ∃ t, t = (ls.take i).flatten.length := ⟨_, rfl⟩
  have ht6 : t ≤ T := by rw [ht]; exact hpre i
  show X (mkE Try.prog Try.f53 Q w (InR [] []) im (fun _ _ => False) (fun _ => True) [] B53) _ ⟨[(0, .val (.slv pz m c)), (3, .val (.int .i64 (.nat (ls.take i).flatten.length))), (9, .val (.slv pz m c)), (10, .val (.int .i64 (.nat m))), (11, .val (.int .i64 (.nat i)))], []⟩
  rw [← ht]
  refine X.go T53_ok 400 _ rfl Try.results53 ?_
  conv => arg 2; cbv
  refine X.cond rfl (fun hlt => ?_) (fun hge => ?_)
  · simp only [SB.T, SI.den] at hlt
    have hlt : i < m := by omega
    obtain ⟨p1, c1, hc1, hb1⟩ := hcell i hlt
    have hft := flat_take (ls := ls) (i := i) (by omega)
    obtain ⟨l, hl⟩ : ∃ l, l = ls[i]! := ⟨_, rfl⟩
    rw [← hl] at hc1 hb1 hft
    obtain ⟨q1, hq1⟩ : ∃ q, q = l.length := ⟨_, rfl⟩
    obtain ⟨oi, hoi⟩ : ∃ o, o = y + i := ⟨_, rfl⟩
    obtain ⟨tq, htq⟩ : ∃ z, z = t + q1 := ⟨_, rfl⟩
    have htn : (ls.take (i + 1)).flatten.length = tq := by rw [hft, List.length_append, htq, ht, hq1]
    have htn6 : tq ≤ T := by rw [← htn]; exact hpre (i + 1)
    have hw : IntKind.i64.wrap ((t : Int) + (q1 : Int)) = (tq : Int) := by rw [wrapN _ (by omega) (by omega)]; omega
    refine X.goP ([(13, .ext b oi 0), (14, .slv p1 q1 c1)]) T53_ok 400 _ rfl Try.results53 (fun pr fin hpr hfin => ?_)
    conv => cbv
    refine ⟨hpr _ (ValOk.im1 rfl Try.isAgg22 (fun _ => rfl) fun _ => by rw [Nat.add_zero, hoi, hq1]; exact hc1), hpr _ (ValOk.at (z := i) rfl rfl (fun _ => rfl) Try.underlying64 Try.sizeOf22 (fun _ => hlt) hpr0 (by omega)), hfin _ _ ?_⟩
    refine X.reval 3 (.int .i64 (.nat tq)) rfl (fun N _ v hv => by rw [← hv]; simp only [SV.den, SI.den, hw]) ?_
    refine X.cond rfl (fun hT => ?_) (fun hF' => ?_)
    · simp only [SB.T, SI.den, hw] at hT
      omega
    · skip
      refine X.go T53_ok 400 _ rfl Try.results53 ?_
      conv => arg 2; cbv
      refine X.back (fun N ac w' hN hf hS => hq ⟨i + 1, hlt⟩ ac w' (by simp only; omega) ?_)
      show Eng.At (mkE Try.prog Try.f53 Q w (InR [] []) im (fun _ _ => False) (fun _ => True) [] B53) ⟨[(0, .val (.slv pz m c)), (3, .val (.int .i64 (.nat (ls.take (i + 1)).flatten.length))), (9, .val (.slv pz m c)), (10, .val (.int .i64 (.nat m))), (11, .val (.int .i64 (.nat (i + 1))))], []⟩ ac w'
      rw [htn]
      exact At.again hf hS (by repeat first | exact trivial | refine ⟨⟨_, rfl, .inl ⟨rfl, rfl⟩⟩, ?_⟩ | refine ⟨⟨_, rfl, .inr ⟨_, rfl, rfl⟩⟩, ?_⟩ | refine ⟨⟨_, rfl, .inr ⟨_, rfl, by simp (disch := omega) [SV.den, SI.den, wrapU, wrapD] <;> omega⟩⟩, ?_⟩) trivial
  · simp only [SB.F, SI.den] at hge
    have hall : ls.take i = ls := List.take_of_length_le (by omega)
    have htT : t = T := by rw [ht, hall, hTT, hF]
    clear hge hq
    rcases Nat.eq_zero_or_pos T with h0 | h0
    · have hF0 : F = [] := List.eq_nil_of_length_eq_zero (by omega)
      have hrow : ∀ j, j < m → im b (y + j) = some (.slice none 0 0) := fun j hj => by
        obtain ⟨p1, c1, hc1, hb1⟩ := hcell j hj
        have hl0 : ls[j]! = [] := by
          have h1 := flat_take (ls := ls) (i := j) (by omega)
          have h2 := hpre (j + 1)
          rw [h1, List.length_append] at h2
          exact List.eq_nil_of_length_eq_zero (by omega)
        rw [hl0] at hc1 hb1
        rcases hb1.2 with ⟨_, rfl, rfl⟩ | ⟨hne, _⟩
        · exact hc1
        · exact absurd rfl hne
      have ht0 : t = 0 := by omega
      refine X.goP ([(24, .raw (.slice none 0 0))]) T53_ok 400 _ rfl Try.results53 (fun pr fin hpr hfin => ?_)
      conv => cbv
      refine ⟨hpr _ (.of Try.call69 [.slice none 0 0, .int .i64 t] (.slice none 0 0) (fun _ => by simp [SV.denL, SV.den, one?, SI.den]) (fun _ => by simp [SV.den, one?]) fun _ w1 _ => by rw [ht0]; exact grow0_ok w1), hfin _ _ ?_⟩
      refine X.loop (fun _ : {i : Nat // i ≤ m} => mkE Try.prog Try.f53 Q w (InR [] []) im (fun _ _ => False) (fun _ => True) [] B53)
        (fun g => ⟨[(6, .val (.raw (.slice none 0 0))), (25, .val (.slv pz m c)), (26, .val (.int .i64 (.nat m))), (27, .val (.int .i64 (.nat g.1)))], []⟩) (fun g => m - g.1) (fun _ => ⟨rfl, rfl, rfl, rfl⟩) (fun N ac w' hN hf hS => ⟨⟨0, Nat.zero_le _⟩, ?_⟩) (fun g q hq => ?_)
      · exact At.again hf hS (by repeat first | exact trivial | refine ⟨⟨_, rfl, .inl ⟨rfl, rfl⟩⟩, ?_⟩ | refine ⟨⟨_, rfl, .inr ⟨_, rfl, rfl⟩⟩, ?_⟩ | refine ⟨⟨_, rfl, .inr ⟨_, rfl, by simp (disch := omega) [SV.den, SI.den, wrapU, wrapD] <;> omega⟩⟩, ?_⟩) trivial
      obtain ⟨i, hi⟩ := g
      show X (mkE Try.prog Try.f53 Q w (InR [] []) im (fun _ _ => False) (fun _ => True) [] B53) _ ⟨[(6, .val (.raw (.slice none 0 0))), (25, .val (.slv pz m c)), (26, .val (.int .i64 (.nat m))), (27, .val (.int .i64 (.nat i)))], []⟩
      refine X.go T53_ok 400 _ rfl Try.results53 ?_
      conv => arg 2; cbv
      refine X.cond rfl (fun hlt => ?_) (fun hge => ?_)
      · simp only [SB.T, SI.den] at hlt
        have hlt : i < m := by omega
        have hc1 := hrow i hlt
        obtain ⟨oi, hoi⟩ : ∃ o, o = y + i := ⟨_, rfl⟩
        refine X.goP ([(29, .ext b oi 0), (30, .raw (.slice none 0 0))]) T53_ok 400 _ rfl Try.results53 (fun pr fin hpr hfin => ?_)
        conv => cbv
        refine ⟨hpr _ (ValOk.im1 rfl Try.isAgg22 (fun _ => by simp [SV.den, one?]; rfl) fun _ => by rw [Nat.add_zero, hoi]; exact hc1), hpr _ (ValOk.at (z := i) rfl rfl (fun _ => rfl) Try.underlying64 Try.sizeOf22 (fun _ => hlt) hpr0 (by omega)), hfin _ _ ?_⟩
        refine X.back (fun N ac w' hN hf hS => hq ⟨i + 1, hlt⟩ ac w' (by simp only; omega) ?_)
        exact At.again hf hS (by repeat first | exact trivial | refine ⟨⟨_, rfl, .inl ⟨rfl, rfl⟩⟩, ?_⟩ | refine ⟨⟨_, rfl, .inr ⟨_, rfl, rfl⟩⟩, ?_⟩ | refine ⟨⟨_, rfl, .inr ⟨_, rfl, by simp (disch := omega) [SV.den, SI.den, wrapU, wrapD] <;> omega⟩⟩, ?_⟩) trivial
      · simp only [SB.F, SI.den] at hge
        refine X.go T53_ok 400 _ rfl Try.results53 ?_
        conv => arg 2; cbv
        refine X.done T53_ok rfl (fun N w' v hN hS hv => ?_)
        simp [resV, SV.den, one?] at hv
        rw [hQ, hF0]
        exact ⟨none, 0, by rw [← hv]; rfl, Nat.le_refl _, .inl ⟨rfl, rfl, rfl⟩, hS.chg.none⟩
    · skip
      refine X.go T53_ok 400 _ rfl Try.results53 ?_
      conv => arg 2; cbv
      refine X.call rfl rfl rfl rfl Try.call69 (fun N w1 args hN hS ha => ?_)
      have ha : args = [.slice none 0 0, .int .i64 T] := by
        obtain ⟨v, l1, rfl, hv, ha⟩ := denL_cons ha
        obtain ⟨v2, l2, rfl, hv2, ha⟩ := denL_cons ha
        obtain rfl := denL_nil ha
        simp [ofVal, SV.den, one?] at hv
        simp only [SV.den, SI.den, Option.some.injEq] at hv2
        rw [← hv, ← hv2, htT]
      rw [ha]
      refine (grow_ok T h0 hT6 w1).mono fun e w2 hr => Goes.fresh hN hS hr rfl ?_
      refine X.go T53_ok 400 _ rfl Try.results53 ?_
      conv => arg 2; cbv
      refine X.loop (fun _ : {i : Nat // i ≤ m} => mkE Try.prog Try.f53 Q w (InR [] []) im (fun _ _ => False) (fun _ => True) [] B53)
        (fun g => ⟨[(6, .val (.osl 0 0 (ls.take g.1).flatten.length 1 none)), (25, .val (.slv pz m c)), (26, .val (.int .i64 (.nat m))), (27, .val (.int .i64 (.nat g.1)))], [⟨true, bytL (ls.take g.1).flatten, none⟩]⟩) (fun g => m - g.1) (fun _ => ⟨rfl, rfl, rfl, rfl⟩) (fun N ac w' hN hf hS => ⟨⟨0, Nat.zero_le _⟩, ?_⟩) (fun g q hq => ?_)
      · exact At.again hf hS (by repeat first | exact trivial | refine ⟨⟨_, rfl, .inl ⟨rfl, rfl⟩⟩, ?_⟩ | refine ⟨⟨_, rfl, .inr ⟨_, rfl, rfl⟩⟩, ?_⟩ | refine ⟨⟨_, rfl, .inr ⟨_, rfl, by simp (disch := omega) [SV.den, SI.den, wrapU, wrapD] <;> omega⟩⟩, ?_⟩) ⟨fun h => h, trivial, rfl, trivial⟩
      obtain ⟨i, hi⟩ := g
      obtain ⟨A, hA⟩ : ∃ A, A = (ls.take i).flatten := ⟨_, rfl⟩
      obtain ⟨la, hla⟩ : ∃ m, m = A.length := ⟨_, rfl⟩
      have hla6 : la ≤ 6 := by have := hpre i; rw [← hA, ← hla] at this; omega
      obtain ⟨ca, hca⟩ : ∃ v, v = bytL A := ⟨_, rfl⟩
      have hcab : ∀ m, ca.all (bd m) = true := fun m => by rw [hca]; exact bytL_bd
      have hcal : ca.length = la := by rw [hca, bytL_len, hla]
      show X (mkE Try.prog Try.f53 Q w (InR [] []) im (fun _ _ => False) (fun _ => True) [] B53) _ ⟨[(6, .val (.osl 0 0 (ls.take i).flatten.length 1 none)), (25, .val (.slv pz m c)), (26, .val (.int .i64 (.nat m))), (27, .val (.int .i64 (.nat i)))], [⟨true, bytL (ls.take i).flatten, none⟩]⟩
      rw [← hA, ← hla, ← hca]
      refine X.go T53_ok 400 _ rfl Try.results53 ?_
      conv => arg 2; cbv
      refine X.cond rfl (fun hlt => ?_) (fun hge => ?_)
      · simp only [SB.T, SI.den] at hlt
        have hlt : i < m := by omega
        obtain ⟨p1, c1, hc1, hb1⟩ := hcell i hlt
        have hft := flat_take (ls := ls) (i := i) (by omega)
        obtain ⟨l, hl⟩ : ∃ l, l = ls[i]! := ⟨_, rfl⟩
        rw [← hl] at hc1 hb1 hft
        rw [← hA] at hft
        obtain ⟨q1, hq1⟩ : ∃ q, q = l.length := ⟨_, rfl⟩
        rw [← hq1] at hc1
        obtain ⟨oi, hoi⟩ : ∃ o, o = y + i := ⟨_, rfl⟩
        have hq16 : la + q1 ≤ 6 := by have := hpre (i + 1); rw [hft, List.length_append, ← hla, ← hq1] at this; omega
        rcases hb1.2 with ⟨hl0, rfl, rfl⟩ | ⟨hne, b2, y2, hp1, _, hli⟩
        · have hq0 : q1 = 0 := by rw [hq1, hl0]; rfl
          rw [hq0] at hc1
          rw [hl0, List.append_nil] at hft
          refine X.goP ([(29, .ext b oi 0), (30, .raw (.slice none 0 0))]) T53_ok 12 _ rfl Try.results53 (fun pr fin hpr hfin => ?_)
          conv => cbv
          refine ⟨hpr _ (ValOk.im1 rfl Try.isAgg22 (fun _ => by simp [SV.den, one?]; rfl) fun _ => by rw [Nat.add_zero, hoi]; exact hc1), hpr _ (ValOk.at (z := i) rfl rfl (fun _ => rfl) Try.underlying64 Try.sizeOf22 (fun _ => hlt) hpr0 (by omega)), hfin _ _ ?_⟩
          refine X.opEq (T := T53) T53_ok (opE_append (te := ti5) (new := []) (m := 0) rfl rfl rfl rfl rfl rfl rfl rfl rfl (appV_none (te := ti5) (n := la) (cs := ca) rfl (by show ca.length = la * 1; omega) (appOk_ok (by decide) rfl rfl rfl (by show (2 * (la + 0) + 256) * 1 ≤ _; omega) (by omega))) rfl) ?_
          refine X.go T53_ok 400 _ rfl Try.results53 ?_
          conv => arg 2; cbv
          refine X.back (fun N ac w' hN hf hS => hq ⟨i + 1, hlt⟩ ac w' (by simp only; omega) ?_)
          show Eng.At (mkE Try.prog Try.f53 Q w (InR [] []) im (fun _ _ => False) (fun _ => True) [] B53) ⟨[(6, .val (.osl 0 0 (ls.take (i + 1)).flatten.length 1 none)), (25, .val (.slv pz m c)), (26, .val (.int .i64 (.nat m))), (27, .val (.int .i64 (.nat (i + 1))))], [⟨true, bytL (ls.take (i + 1)).flatten, none⟩]⟩ ac w'
          rw [hft, ← hla, ← hca]
          exact At.again hf hS (by repeat first | exact trivial | refine ⟨⟨_, rfl, .inl ⟨rfl, rfl⟩⟩, ?_⟩ | refine ⟨⟨_, rfl, .inr ⟨_, rfl, rfl⟩⟩, ?_⟩ | refine ⟨⟨_, rfl, .inr ⟨_, rfl, by simp (disch := omega) [SV.den, SI.den, wrapU, wrapD] <;> omega⟩⟩, ?_⟩) ⟨fun h => h, SubC.refl (hcab _), rfl, trivial⟩
        · skip
          refine X.goP ([(29, .ext b oi 0), (30, .slv p1 q1 c1)]) T53_ok 12 _ rfl Try.results53 (fun pr fin hpr hfin => ?_)
          conv => cbv
          refine ⟨hpr _ (ValOk.im1 rfl Try.isAgg22 (fun _ => rfl) fun _ => by rw [Nat.add_zero, hoi]; exact hc1), hpr _ (ValOk.at (z := i) rfl rfl (fun _ => rfl) Try.underlying64 Try.sizeOf22 (fun _ => hlt) hpr0 (by omega)), hfin _ _ ?_⟩
          obtain ⟨cl, hcl⟩ : ∃ c, c = bytL l := ⟨_, rfl⟩
          have hcll : cl.length = q1 := by rw [hcl, bytL_len, hq1]
          have hq10 : 0 < q1 := by rw [hq1]; exact List.length_pos_iff.2 hne
          refine X.less [25, 26, 27, 31, 32] ?_
          show X (mkE Try.prog Try.f53 Q w (InR [] []) im (fun _ _ => False) (fun _ => True) [] B53) _ ⟨[(32, .val (.slv p1 q1 c1)), (31, .val (.osl 0 0 la 1 none)), (25, .val (.slv pz m c)), (26, .val (.int .i64 (.nat m))), (27, .val (.int .i64 (.nat i)))], [⟨true, ca, none⟩]⟩
          refine X.addIm [(32, .val (.osl 1 0 q1 1 (some c1))), (31, .val (.osl 0 0 la 1 none)), (25, .val (.slv pz m c)), (26, .val (.int .i64 (.nat m))), (27, .val (.int .i64 (.nat i)))] b2 y2 (cs := cl) (by omega) (fun j x hj => ?_) (fun N hN => ?_) ?_
          · rw [hcl] at hj
            have hjl : j < l.length := by have := (List.getElem?_eq_some_iff.1 hj).1; rwa [bytL_len] at this
            obtain rfl : x = .int .u8 (.v l[j]!) := by
              have : (bytL l)[j]? = some (.int .u8 (.v l[j]!)) := by simp [bytL, hjl]
              rw [this] at hj
              exact (Option.some.inj hj).symm
            exact ⟨_, fun _ => rfl, hli j hjl⟩
          · obtain ⟨n0, rfl⟩ : ∃ n0, N = [n0] := by
              match N, hN with
              | [a], _ => exact ⟨a, rfl⟩
            refine ⟨rfl, fun x h => ?_, rfl, fun _ h => h, rfl, fun _ h => h, rfl, fun _ h => h, rfl, fun _ h => h, trivial⟩
            rw [hp1] at h
            simpa [SV.den, Num.cap] using h
          refine X.appG (T := T53) (te := ti5) (r := 0) (n := la) (m := q1) (cs := ca) (new := cl) T53_ok rfl [25, 26, 27, 33] rfl rfl rfl rfl rfl rfl rfl rfl (.inr (.inr rfl)) rfl (by show ca.length = la * 1; omega) (by omega) (appSrc_row (g := ⟨false, cl, none⟩) rfl rfl rfl (by show cl.length = q1 * 1; omega)) (appOk_ok (by decide) rfl (by show cl.length = q1 * 1; omega) (by rw [hcl]; exact bytL_one) (by show (2 * (la + q1) + 256) * 1 ≤ _; omega) (by omega)) rfl rfl rfl (by repeat first | exact trivial | refine ⟨rfl, ?_⟩ | refine ⟨by assumption, ?_⟩) ⟨.inl rfl, .inr (by rw [hcl]; exact bytL_frr), trivial⟩ (by rw [List.all_append, hca, hcl, bytL_frr, bytL_frr]; rfl) rfl ?_
          obtain ⟨c3, hc3⟩ : ∃ c, c = ca ++ cl := ⟨_, rfl⟩
          have hc3b : c3 = bytL (A ++ l) := by rw [hc3, hca, hcl]; simp [bytL]
          have hc3d : ∀ m, c3.all (bd m) = true := fun m => by rw [hc3b]; exact bytL_bd
          obtain ⟨lq, hlq⟩ : ∃ z, z = la + q1 := ⟨_, rfl⟩
          show X (mkE Try.prog Try.f53 Q w (InR [] []) im (fun _ _ => False) (fun _ => True) [] B53) _ ⟨[(33, .val (.osl 0 0 (la + q1) 1 none)), (25, .val (.slv pz m c)), (26, .val (.int .i64 (.nat m))), (27, .val (.int .i64 (.nat i)))], [⟨true, ca ++ cl, none⟩, ⟨false, cl, none⟩]⟩
          rw [← hc3, ← hlq]
          refine X.go T53_ok 400 _ rfl Try.results53 ?_
          conv => arg 2; cbv
          refine X.back (fun N ac w' hN hf hS => hq ⟨i + 1, hlt⟩ ac w' (by simp only; omega) ?_)
          show Eng.At (mkE Try.prog Try.f53 Q w (InR [] []) im (fun _ _ => False) (fun _ => True) [] B53) ⟨[(6, .val (.osl 0 0 (ls.take (i + 1)).flatten.length 1 none)), (25, .val (.slv pz m c)), (26, .val (.int .i64 (.nat m))), (27, .val (.int .i64 (.nat (i + 1))))], [⟨true, bytL (ls.take (i + 1)).flatten, none⟩]⟩ ac w'
          rw [hft, ← hc3b, List.length_append, ← hla, ← hq1, ← hlq]
          exact At.again hf hS (by repeat first | exact trivial | refine ⟨⟨_, rfl, .inl ⟨rfl, rfl⟩⟩, ?_⟩ | refine ⟨⟨_, rfl, .inr ⟨_, rfl, rfl⟩⟩, ?_⟩ | refine ⟨⟨_, rfl, .inr ⟨_, rfl, by simp (disch := omega) [SV.den, SI.den, wrapU, wrapD] <;> omega⟩⟩, ?_⟩) ⟨fun h => h, SubC.refl (hc3d _), rfl, trivial⟩
      · simp only [SB.F, SI.den] at hge
        have hall : ls.take i = ls := List.take_of_length_le (by omega)
        have hAF : A = F := by rw [hA, hall, hF]
        refine X.go T53_ok 400 _ rfl Try.results53 ?_
        conv => arg 2; cbv
        refine X.done T53_ok rfl (fun N w' v hN hS hv => ?_)
        obtain ⟨p4, hp4⟩ := num_of hS (r := 0) rfl
        have hext := hS.ext 0 _ p4 rfl hp4 rfl
        simp only [hcal] at hext
        simp only [resV, SV.den, hp4, Num.cap, Option.some.injEq] at hv
        have hFl : F.length = la := by rw [← hAF, hla]
        rw [hQ]
        refine ⟨some ⟨p4.b, p4.o, none⟩, _, by rw [← hv, hFl, Nat.add_zero], by rw [hFl]; simpa using hext, .inr ⟨fun h => by rw [h] at hTT; simp at hTT; omega, p4.b, p4.o, rfl, ?_, fun j hj => ?_⟩, hS.chg.none⟩
        · rcases hS.foot 0 _ p4 rfl hp4 rfl with h | h
          · exact h
          · exact absurd (h 0 (by omega)) (fun h => inR_nil h)
        · rw [← hAF] at hj ⊢
          have hj : j < A.length := by simpa using hj
          obtain ⟨v0, h1, h2⟩ := hS.cell 0 _ p4 rfl hp4 j (.int .u8 (.v A[j]!)) (by show ca[j]? = _; rw [hca]; simp [bytL, hj])
          simp only [SV.den, SI.den, Option.some.injEq] at h1
          subst h1
          exact ⟨by simpa using h2, (hS.room 0 _ p4 rfl hp4 rfl j (by omega)).2⟩

end Go.Proofs.Ythaffebapmkppaa

namespace Go.Proofs.Ythaffebapmkppaa
open Go Go.Eng Go.Sort

/-- all keepers of a key, rising -/
def keepC (C : Nat) (o n : Array Int) (key : Int) : List Int := (ascA (ringsL C o n key).flatten.toArray).toList
theorem ofL_3 (d : Array Int) (key : Int) : (ofL d key).length ≤ 3 := by
  rw [(ofL_perm d key).length_eq, keepL_eq (ringP_rise d)]
  simp
  omega
theorem rings_flat (C : Nat) (o n : Array Int) (key : Int) : (ringsL C o n key).flatten.length ≤ 6 := by
  have h1 := ofL_3 n key
  have h2 := ofL_3 o key
  unfold ringsL
  split <;> simp <;> omega
theorem keepC_mem {C : Nat} {o n : Array Int} {key x : Int} : x ∈ keepC C o n key ↔ x ∈ (ringsL C o n key).flatten := ascA_iff _ x
theorem keepC_64 {C : Nat} {o n : Array Int} {key : Int} (h : mayC C o n) (hbo : ∀ x ∈ o.toList, 0 ≤ x ∧ x < 256) (hbn : ∀ x ∈ n.toList, 0 ≤ x ∧ x < 256) : ∀ x ∈ keepC C o n key, 0 ≤ x ∧ x < 64 := fun x hx => by
  rw [keepC_mem] at hx
  obtain ⟨l, hl, hx⟩ := List.mem_flatten.1 hx
  obtain ⟨j, hj, rfl⟩ := List.getElem_of_mem hl
  have := (rings_64 h hbo hbn j hj).2 x (by rw [getElem!_pos _ j hj]; exact hx)
  exact this
theorem keepC_len (C : Nat) (o n : Array Int) (key : Int) : (keepC C o n key).length ≤ 6 := by
  have h1 : (ascA (ringsL C o n key).flatten.toArray).size ≤ (ringsL C o n key).flatten.length := ascA_size _
  exact Nat.le_trans (by unfold keepC; rw [Array.length_toList]; exact h1) (rings_flat C o n key)
theorem keepC_byte {C : Nat} {o n : Array Int} {key : Int} (hbo : ∀ x ∈ o.toList, 0 ≤ x ∧ x < 256) (hbn : ∀ x ∈ n.toList, 0 ≤ x ∧ x < 256) : ∀ x ∈ keepC C o n key, 0 ≤ x ∧ x < 256 := fun x hx => by
  rw [keepC_mem] at hx
  unfold ringsL at hx
  split at hx
  · simp only [List.flatten_cons, List.flatten_nil, List.append_nil, List.mem_append] at hx
    rcases hx with h | h
    · exact hbn x (ofL_sub h)
    · exact hbo x (ofL_sub h)
  · simp only [List.flatten_cons, List.flatten_nil, List.append_nil] at hx
    exact hbn x (ofL_sub hx)

set_option maxHeartbeats 8000000 in
set_option maxRecDepth 100000 in
set_option cbv.maxSteps 100000000 in
theorem ckeepers_ok (C : Nat) (po pn : Option Addr) (no nn co cn : Nat) (o n : Array Int) (key : Int) (w : World) (hno : no ≤ 100) (hnn : nn ≤ 100) (ho : InB po no o w) (hn : InB pn nn n w) (hbo : ∀ x ∈ o.toList, 0 ≤ x ∧ x < 256) (hbn : ∀ x ∈ n.toList, 0 ≤ x ∧ x < 256) :
    Calls Try.prog 30 #[.agg #[.int .u64 C, .slice po no co, .slice pn nn cn], .int .u8 key] w (BytRet (keepC C o n key) w) := by
  have hos := ho.1
  have hns := hn.1
  obtain ⟨F, hF⟩ : ∃ F, F = keepC C o n key := ⟨_, rfl⟩
  rw [← hF]
  refine X.begin (rg := []) (N := []) (ss := [.agg [.int .u64 (.nat C), .slv po no co, .slv pn nn cn], .int .u8 (.v key)]) Try.func30 rfl B30_ok rfl rfl Sat.std0 ?_
  refine X.go T30_ok 400 _ rfl Try.results30 ?_
  conv => arg 2; cbv
  refine X.call rfl rfl rfl rfl Try.call51 (fun N w1 args hN hS ha => ?_)
  have ha : args = [.agg #[.int .u64 C, .slice po no co, .slice pn nn cn], .int .u8 key] := (Option.some.inj ha).symm
  rw [ha]
  refine (rings_ok C po pn no nn co cn o n key w1 (by omega) (by omega) (ho.stays hS.chg.none) (hn.stays hS.chg.none) hbo hbn).mono fun e w2 ⟨b, y, c, he, hfr, hcell, hch⟩ => ?_
  obtain ⟨hl2, hl3⟩ := rings_len (C := C) (key := key) (show o.size ≤ 100 by omega) (show n.size ≤ 100 by omega)
  have hfl := rings_flat C o n key
  obtain ⟨ls, hls⟩ : ∃ l, l = ringsL C o n key := ⟨_, rfl⟩
  obtain ⟨m, hm⟩ : ∃ m, m = ls.length := ⟨_, rfl⟩
  have hFa : F = (ascA ls.flatten.toArray).toList := by rw [hF, hls]; rfl
  rw [← hls] at hl2 hl3 he hcell hfl
  rw [← hm] at hl2 hl3 he hcell
  refine ⟨_, he, Goes.newMem hN hS hch (r := .slv (some ⟨b, y, none⟩) m c) rfl rfl (fun hold hnew => ?_)⟩
  obtain ⟨im, him⟩ : ∃ im, im = imNew (elsewhere [] [] w) w1 w2 := ⟨_, rfl⟩
  have himw : ∀ k o, w.heap.size ≤ k → w2.heap.size ≤ k → im k o = none := fun k o h1 h2 => by
    rw [him]
    unfold imNew
    rw [els_new h1]
    simp only
    split
    · simp [World.cell?, Array.getElem?_eq_none h2]
    · rfl
  have hcell : ∀ j, j < m → ∃ p c, im b (y + j) = some (.slice p ls[j]!.length c) ∧ BytNew ls[j]! 0 im p c := fun j hj => by
    obtain ⟨p, c, h1, h2⟩ := hcell j hj
    exact ⟨p, c, by rw [him]; exact hnew _ _ _ hfr h1, h2.mono (Nat.zero_le _) fun k o v hk hv => by rw [him]; exact hnew _ _ _ hk hv⟩
  obtain ⟨pz, hpz⟩ : ∃ p, p = some (Addr.mk b y none) := ⟨_, rfl⟩
  show X (mkE Try.prog Try.f30 (BytRet F w) w (InR [] []) (imNew (elsewhere [] [] w) w1 w2) (fun _ _ => False) (fun _ => True) [] B30) _ _
  rw [← him, ← hpz]
  clear him hold hnew hch he ha hS hN himw
  refine X.less [8] ?_
  refine X.noRegs [(8, .val (.slv pz m c))] rfl (fun N hN => ⟨rfl, fun _ h => h, trivial⟩) ?_
  refine X.call rfl rfl rfl rfl Try.call53 (fun N w3 args hN hS ha => ?_)
  have ha : args = [.slice pz m c] := (Option.some.inj ha).symm
  rw [ha, hpz]
  refine (concat_ok ls b y m c w3 hm hfl (by omega) (fun j hj => by
    obtain ⟨p, c, h1, h2⟩ := hcell j hj
    exact ⟨p, c, hS.imm _ _ _ h1, h2.mono (Nat.le_refl _) fun k o v _ hv => hS.imm _ _ _ hv⟩)).mono fun e w4 ⟨p2, c2, he, hc2, hr, hch⟩ => ⟨_, he, ?_⟩
  obtain ⟨out, hout⟩ : ∃ l, l = ls.flatten := ⟨_, rfl⟩
  obtain ⟨ll, hll⟩ : ∃ q, q = out.length := ⟨_, rfl⟩
  have hll6 : ll ≤ 6 := by rw [hll, hout]; exact hfl
  rw [← hout] at hr hc2
  rw [← hout, ← hll]
  rw [← hout] at hFa
  rcases hr with ⟨h1, h2, h3⟩ | ⟨hne, b2, o2, h1, h2, h3⟩
  · subst h2 h3
    have hl0 : ll = 0 := by rw [hll, h1]; rfl
    subst hl0
    have hFn : F = [] := by
      have h := ascA_size out.toArray
      rw [h1] at h
      rw [hFa, h1]
      exact List.eq_nil_of_length_eq_zero (by simpa using h)
    refine Goes.same hN hS hch (r := .raw (.slice none 0 0)) rfl rfl ?_
    refine X.go T30_ok 400 _ rfl Try.results30 ?_
    conv => arg 2; cbv
    refine X.call rfl rfl rfl rfl Try.call35 (fun N w5 args hN hS ha => ?_)
    have ha : args = [.slice none 0 0] := (Option.some.inj ha).symm
    rw [ha]
    refine (sort8_nil w5).mono fun e w6 ⟨he, hc⟩ => ⟨_, he, Goes.same hN hS hc (r := .tup []) rfl rfl ?_⟩
    refine X.goC FALL_ok true T30_ok 4000 _ rfl Try.results30 ?_
    conv => arg 2; cbv
    refine X.done T30_ok rfl (fun N w' v hN hS hv => ?_)
    simp [resV, SV.den, one?] at hv
    exact ⟨none, 0, by rw [← hv, hFn]; rfl, by rw [hFn]; exact Nat.le_refl _, .inl ⟨hFn, rfl, rfl⟩, hS.chg.none⟩
  · have hsz : out.toArray.size = ll := by rw [hll]; simp
    have hbw : w.heap.size ≤ b2 := Nat.le_trans hS.chg.size h2
    have hdw : ∀ k o, arrD b2 o2 ll k o → w.heap.size ≤ k := fun k o ⟨e1, _, _⟩ => by rw [e1]; exact hbw
    have hdi : ∀ k o, arrD b2 o2 ll k o → im k o = none := fun k o ⟨e1, _, _⟩ => im_new hS (by rw [e1]; exact h2)
    refine Goes.turn (r := .slv p2 ll c2) (arrD b2 o2 ll) (fun w => AtA w b2 o2 out.toArray) hN hS hch (fun _ _ h => h.elim) (fun _ _ h => h.elim) (by simp) (fun k o hk => ⟨.inr (by obtain ⟨e1, e2, e3⟩ := hk; rw [e1]; exact h2), h3.there (by omega) hk⟩) (AtA.loc (by omega)) h3 rfl rfl ?_
    clear h3 hch he ha hS hN
    show X (mkE Try.prog Try.f30 (BytRet F w) w (InR [] []) im (arrD b2 o2 ll) (fun w => AtA w b2 o2 out.toArray) [] B30) _ _
    refine X.go T30_ok 400 _ rfl Try.results30 ?_
    conv => arg 2; cbv
    refine X.call rfl rfl rfl rfl Try.call35 (fun N w5 args hN hS ha => ?_)
    have ha : args = [.slice p2 ll c2] := (Option.some.inj ha).symm
    rw [ha, h1]
    refine (sort8_ok b2 o2 ll c2 out.toArray w5 hS.res hsz (by omega)).mono fun e w6 ⟨S, ⟨g1, g2⟩, he, hA1, hch⟩ => ⟨_, he, ?_⟩
    have hSr := srtA_of hsz g1 g2
    subst hSr
    have hsn : (srtA out.toArray).size = ll := by rw [srtA_size, hsz]
    refine Goes.turn (r := .tup []) (arrD b2 o2 ll) (fun w => AtA w b2 o2 (srtA out.toArray)) hN hS hch (fun k o h => .inl (hdw k o h)) hdi (by simp) (fun k o hk => ⟨.inl hk, hA1.there (by omega) hk⟩) (AtA.loc (by omega)) hA1 rfl rfl ?_
    clear hA1 hch he ha hS hN g1 g2
    show X (mkE Try.prog Try.f30 (BytRet F w) w (InR [] []) im (arrD b2 o2 ll) (fun w => AtA w b2 o2 (srtA out.toArray)) [] B30) _ _
    refine X.go T30_ok 400 _ rfl Try.results30 ?_
    conv => arg 2; cbv
    refine X.call rfl rfl rfl rfl Try.call37 (fun N w7 args hN hS ha => ?_)
    have ha : args = [.slice (some ⟨b2, o2, none⟩) ll c2] := (Option.some.inj ha).symm
    rw [ha]
    have hAs : AtA w7 b2 o2 (srtA out.toArray) := hS.res
    refine (compact8_ok b2 o2 ll c2 (srtA out.toArray) w7 hAs hsn (by omega) (by omega)).mono fun e w8 ⟨he, hA1, hch⟩ => ⟨_, he, ?_⟩
    obtain ⟨a, ha⟩ : ∃ a, a = ascA out.toArray := ⟨_, rfl⟩
    rw [show (Go.Lib.compactUpTo (srtA out.toArray) ll).toArray = a by rw [ha, ascA, hsz]] at hA1
    obtain ⟨q, hq⟩ : ∃ q, q = a.size := ⟨_, rfl⟩
    rw [show (Go.Lib.compactUpTo (srtA out.toArray) ll).length = q by rw [hq, ha, ascA, hsz]; simp]
    have hql : q ≤ ll := by rw [hq, ha, ← hsz]; exact ascA_size _
    have hq0 : 0 < q := by rw [hq, ha]; exact ascA_pos (by rw [hsz, hll]; exact List.length_pos_iff.2 hne)
    refine Goes.turn (r := .slv (some ⟨b2, o2, none⟩) q c2) (arrD b2 o2 ll) (fun w => AtA w b2 o2 a) hN hS hch (fun k o h => .inl (hdw k o h)) hdi (by simp) (fun k o hk => ⟨.inl hk, ?_⟩) (AtA.loc (by omega)) hA1 rfl rfl ?_
    · obtain ⟨rfl, k2, k3⟩ := hk
      have := (hAs (o - o2) (by omega)).1
      rw [show o2 + (o - o2) = o by omega] at this
      exact .inl (some_of_chg hch o (by rw [this]; rfl))
    clear hA1 hch he hS hN hAs
    show X (mkE Try.prog Try.f30 (BytRet F w) w (InR [] []) im (arrD b2 o2 ll) (fun w => AtA w b2 o2 a) [] B30) _ _
    refine X.go T30_ok 400 _ rfl Try.results30 ?_
    conv => arg 2; cbv
    refine X.done T30_ok rfl (fun N w' v hN hS hv => ?_)
    simp only [resV, SV.den, Option.some.injEq] at hv
    have hFq : F = a.toList := by rw [hFa, ha]
    have hFl : F.length = q := by rw [hFq, hq]; simp
    exact ⟨some ⟨b2, o2, none⟩, c2, by rw [← hv, hFl], by omega, .inr ⟨fun h => by rw [h] at hFl; simp at hFl; omega, b2, o2, rfl, hbw, by rw [hFq]; exact hS.res⟩, hS.chg.none⟩

end Go.Proofs.Ythaffebapmkppaa

namespace Go.Proofs.Ythaffebapmkppaa
open Go Go.Eng Go.Sort

theorem RoR.inB {l : List Int} {b o q : Nat} {w w' : World} (h2 : 0 < l.length → w.heap.size ≤ b) (h4 : ∀ j, j < l.length → w'.cell? ⟨b, o + j, none⟩ = some (.int .u8 l[j]!)) (hq : q = l.length) {im : Mem} (hnew : ∀ k o v, w.heap.size ≤ k → w'.cell? ⟨k, o, none⟩ = some v → im k o = some v) : ∀ w2 : World, (∀ k o v, im k o = some v → w2.cell? ⟨k, o, none⟩ = some v) → InB (some ⟨b, o, none⟩) q l.toArray w2 := fun w2 h => ⟨by simp [hq], fun h0 => ⟨b, o, rfl, fun j hj => by
  have hj : j < l.length := by simpa using hj
  have := h _ _ _ (hnew _ _ _ (h2 (by omega)) (h4 j hj))
  simpa [hj] using this⟩⟩

/-! ### all keepers -/
def allC (C : Nat) (o n : Array Int) (key : Int) (s : Nat) : Prop := mayC C o n ∧ ∀ x ∈ keepC C o n key, s.testBit x.toNat = true
theorem andNot_zero (a b : Nat) (ha : a < 2 ^ 64) (hb : b < 2 ^ 64) : bitsI .andNot .u64 a b = 0 ↔ ∀ i, i < 64 → a.testBit i = true → b.testBit i = true := by
  show IntKind.u64.wrap (((BitVec.ofInt 64 (a : Int) &&& ~~~ BitVec.ofInt 64 (b : Int)).toNat : Nat) : Int) = 0 ↔ _
  have e1 : (BitVec.ofInt 64 (a : Int)) = BitVec.ofNat 64 a := by simp
  have e2 : (BitVec.ofInt 64 (b : Int)) = BitVec.ofNat 64 b := by simp
  rw [e1, e2]
  obtain ⟨v, hv⟩ : ∃ v, v = (BitVec.ofNat 64 a &&& ~~~ BitVec.ofNat 64 b) := ⟨_, rfl⟩
  rw [← hv, wrapU64 _ v.isLt]
  have h0 : ((v.toNat : Nat) : Int) = 0 ↔ v = 0#64 := by
    rw [← BitVec.toNat_inj]
    simp
  rw [h0]
  constructor
  · intro h i hi h1
    have := congrArg (fun v : BitVec 64 => v.getLsbD i) (hv.symm.trans h)
    simp only [BitVec.getLsbD_and, BitVec.getLsbD_not, BitVec.getLsbD_ofNat, hi, decide_true, Bool.true_and, BitVec.getLsbD_zero, h1] at this
    simpa using this
  · intro h
    rw [hv]
    refine BitVec.eq_of_getLsbD_eq fun i hi => ?_
    have := h i hi
    simp only [BitVec.getLsbD_and, BitVec.getLsbD_not, BitVec.getLsbD_ofNat, hi, decide_true, Bool.true_and, BitVec.getLsbD_zero]
    cases ha' : a.testBit i with
    | false => simp
    | true => simp [this ha']
theorem all_law {C : Nat} {o n : Array Int} {key : Int} {s : Nat} (hs : s < 2 ^ 64) (h : mayC C o n) (hbo : ∀ x ∈ o.toList, 0 ≤ x ∧ x < 256) (hbn : ∀ x ∈ n.toList, 0 ≤ x ∧ x < 256) : bitsI .andNot .u64 (setN (keepC C o n key) : Nat) s = 0 ↔ allC C o n key s := by
  have hk := keepC_64 (key := key) h hbo hbn
  rw [andNot_zero (setN (keepC C o n key)) s (by unfold setN; exact setN_lt _ 0 (by decide)) hs]
  constructor
  · intro h1
    refine ⟨h, fun x hx => ?_⟩
    have := hk x hx
    refine h1 x.toNat (by omega) ?_
    unfold setN
    rw [setN_bit (by omega) _ 0 fun y hy => (hk y hy).1]
    simp [Int.toNat_of_nonneg this.1, hx]
  · rintro ⟨_, h1⟩ i hi h2
    unfold setN at h2
    rw [setN_bit hi _ 0 fun y hy => (hk y hy).1] at h2
    simp at h2
    have := h1 _ h2
    simpa using this

set_option maxHeartbeats 8000000 in
set_option maxRecDepth 100000 in
set_option cbv.maxSteps 100000000 in
theorem all_ok (C s : Nat) (po pn : Option Addr) (no nn co cn : Nat) (o n : Array Int) (key : Int) (w : World) (hno : no ≤ 100) (hnn : nn ≤ 100) (hs : s < 2 ^ 64) (ho : InB po no o w) (hn : InB pn nn n w) (hbo : ∀ x ∈ o.toList, 0 ≤ x ∧ x < 256) (hbn : ∀ x ∈ n.toList, 0 ≤ x ∧ x < 256) :
    Calls Try.prog 28 #[.agg #[.int .u64 C, .slice po no co, .slice pn nn cn], .int .u8 key, .int .u64 s] w fun e w' => e = .returned (.bool (B (allC C o n key s))) ∧ Chg (fun _ _ => False) w w' := by
  obtain ⟨Q, hQ⟩ : ∃ Q : Ending → World → Prop, Q = fun e w' => e = .returned (.bool (B (allC C o n key s))) ∧ Chg (fun _ _ => False) w w' := ⟨_, rfl⟩
  rw [← hQ]
  refine X.begin (rg := []) (N := []) (ss := [.agg [.int .u64 (.nat C), .slv po no co, .slv pn nn cn], .int .u8 (.v key), .int .u64 (.nat s)]) Try.func28 rfl B28_ok rfl rfl Sat.std0 ?_
  by_cases hmay : mayC C o n
  · skip
    refine X.goP ([(8, .bool (.lit true))]) T28_ok 10 _ rfl Try.results28 (fun pr fin hpr hfin => ?_)
    conv => cbv
    refine ⟨hpr _ (.of Try.call23 [.agg #[.int .u64 C, .slice po no co, .slice pn nn cn]] (.bool true) (fun _ => rfl) (fun _ => rfl) fun _ w1 him => by rw [← B_pos hmay]; exact cmay_ok C po pn no nn co cn o n w1 (by omega) (by omega) (ho.im him) (hn.im him) hbo hbn), hfin _ _ ?_⟩
    refine X.go T28_ok 400 _ rfl Try.results28 ?_
    conv => arg 2; cbv
    refine X.callG rfl rfl rfl rfl Try.call30 (fun N w1 args hN hS ha => ?_)
    have ha : args = [.agg #[.int .u64 C, .slice po no co, .slice pn nn cn], .int .u8 key] := (Option.some.inj ha).symm
    rw [ha]
    refine (ckeepers_ok C po pn no nn co cn o n key w1 hno hnn (ho.stays hS.chg.none) (hn.stays hS.chg.none) hbo hbn).mono fun e w2 hr => ?_
    obtain ⟨p1, c1, he, hb1, hch⟩ := hr.new
    have hk6 := keepC_len C o n key
    have hkb := keepC_byte (C := C) (key := key) hbo hbn
    have hlaw := all_law (key := key) hs hmay hbo hbn
    obtain ⟨l1, hl1⟩ : ∃ l, l = keepC C o n key := ⟨_, rfl⟩
    obtain ⟨q1, hq1⟩ : ∃ q, q = l1.length := ⟨_, rfl⟩
    rw [← hl1] at hb1 he hk6 hkb hlaw
    rw [← hq1] at he
    refine ⟨_, he, Goes.newMem hN hS hch (r := .slv p1 q1 c1) rfl rfl (fun hold hnew => ?_)⟩
    obtain ⟨im, him⟩ : ∃ im, im = imNew (elsewhere [] [] w) w1 w2 := ⟨_, rfl⟩
    have hb1 : BytNew l1 0 im p1 c1 := hb1.mono (Nat.zero_le _) fun k o v hk hv => by rw [him]; exact hnew _ _ _ hk hv
    show X (mkE Try.prog Try.f28 Q w (InR [] []) (imNew (elsewhere [] [] w) w1 w2) (fun _ _ => False) (fun _ => True) [] B28) _ _
    rw [← him]
    clear him hold hnew hr hch he ha hS hN
    obtain ⟨sl, hsl⟩ : ∃ t, t = setN l1 := ⟨_, rfl⟩
    refine X.goP ([(13, .int .u64 (.nat sl))]) T28_ok 400 _ rfl Try.results28 (fun pr fin hpr hfin => ?_)
    conv => cbv
    refine ⟨hpr _ (.of Try.call49 [.slice p1 q1 c1] (.int .u64 sl) (fun _ => rfl) (fun _ => rfl) fun _ w1 him => by rw [hsl, hq1]; exact set_ok p1 l1.length c1 l1.toArray w1 (by omega) (hb1.inB him) (fun x hx => hkb x (by simpa using hx))), hfin _ _ ?_⟩
    refine X.done T28_ok rfl (fun N w' v hN hS hv => ?_)
    rw [hQ]
    refine ⟨fin_bool hv (den_of ?_), hS.chg.none⟩
    rw [B_iff, ← hlaw, ← hsl]
    simp [SB.T, SI.den]
  · refine X.goP ([(8, .bool (.lit false))]) T28_ok 400 _ rfl Try.results28 (fun pr fin hpr hfin => ?_)
    conv => cbv
    refine ⟨hpr _ (.of Try.call23 [.agg #[.int .u64 C, .slice po no co, .slice pn nn cn]] (.bool false) (fun _ => rfl) (fun _ => rfl) fun _ w1 him => by rw [← B_neg hmay]; exact cmay_ok C po pn no nn co cn o n w1 (by omega) (by omega) (ho.im him) (hn.im him) hbo hbn), hfin _ _ ?_⟩
    refine X.done T28_ok rfl (fun N w' v hN hS hv => ?_)
    rw [hQ]
    exact ⟨fin_bool hv (by rw [B_neg fun h => hmay h.1]; rfl), hS.chg.none⟩

set_option maxHeartbeats 4000000 in
set_option maxRecDepth 100000 in
set_option cbv.maxSteps 100000000 in
theorem great10_ok (C : Nat) (po pn : Option Addr) (no nn co cn : Nat) (w : World) :
    Calls Try.prog 21 #[.agg #[.int .u64 C, .slice po no co, .slice pn nn cn]] w fun e w' => e = .returned (.bool (decide (80 < no ∨ 80 < nn))) ∧ Chg (fun _ _ => False) w w' := by
  refine X.begin (rg := []) (N := []) (ss := [.agg [.int .u64 (.nat C), .slv po no co, .slv pn nn cn]]) Try.func21 rfl B21_ok rfl rfl Sat.std0 ?_
  refine X.go T21_ok 400 _ rfl Try.results21 ?_
  conv => arg 2; cbv
  refine X.done T21_ok rfl (fun N w' v hN hS hv => ⟨fin_bool hv (den_of ?_), hS.chg.none⟩)
  simp only [SB.T, SI.den, decide_eq_true_eq]
  omega

/-! ### one node alone -/
theorem ofL_one (x key : Int) : ofL #[x] key = [x] := by
  have h1 : ofL #[x] key ≠ [] := ofL_pos (by simp)
  have h2 : ∀ y ∈ ofL #[x] key, y = x := fun y hy => by simpa using ofL_sub hy
  have h3 := ofL_lt #[x] key
  cases hl : ofL #[x] key with
  | nil => exact absurd hl h1
  | cons a t =>
    rw [hl] at h2 h3
    have ha := h2 a (by simp)
    cases t with
    | nil => rw [ha]
    | cons b t =>
      have hb := h2 b (by simp)
      have := (List.pairwise_cons.1 h3).1 b (by simp)
      omega
theorem mayC_one : mayC 0 #[] #[3] := ⟨by simp, fun i hi => by
  have : i = 0 := by simp at hi; omega
  subst this
  exact ⟨by decide, fun h => absurd h (by decide)⟩, by simp⟩
theorem keepC_one : keepC 0 #[] #[3] 1 = [3] := by
  have h : ringsL 0 #[] #[3] 1 = [[3]] := by rw [ringsL, if_neg (by decide), ofL_one]
  rw [keepC, h]
  refine lt_eq (ascA_lt _) (by simp) fun y => ?_
  rw [ascA_iff]
  simp
theorem quoC_8 : quoC 0 #[] #[3] 1 8 := ⟨mayC_one, by rw [ofL_one]; unfold maj; decide, fun h => absurd h (by decide)⟩
theorem quoC_7 : ¬ quoC 0 #[] #[3] 1 7 := fun h => by
  have := h.2.1
  rw [ofL_one] at this
  exact absurd this (by unfold maj; decide)
theorem allC_8 : allC 0 #[] #[3] 1 8 := ⟨mayC_one, fun x hx => by
  rw [keepC_one] at hx
  obtain rfl : x = 3 := by simpa using hx
  decide⟩

theorem awake_args {E : Env} {N : Nums} {rg : List Rg} {w1 : World} (hS : Sat E N rg w1) {ow : Bool} {xs : List SV} (hg : rg[0]? = some ⟨ow, xs, none⟩) (hx : xs[0]? = some (.int .u8 (.lit 3))) {s : SI} {args : List Value} (ha : SV.denL N [.agg [.int .u64 (.lit 0), .raw (.slice none 0 0), .osl 0 0 1 1 (some 1)], .int .u8 (.lit 1), .int .u64 s] = some args) : ∃ p c, args = [.agg #[.int .u64 (0 : Nat), .slice none 0 0, .slice p 1 c], .int .u8 1, .int .u64 s.den] ∧ InB p 1 #[3] w1 := by
  obtain ⟨p, hp⟩ := num_of hS hg
  have h : InB (some ⟨p.b, p.o + 0, none⟩) 1 #[3] w1 := inB_own hS hg hp rfl fun j hj => by
    obtain rfl : j = 0 := by omega
    exact ⟨_, hx, rfl⟩
  simp only [SV.denL, SV.den, hp, SI.den] at ha
  exact ⟨_, _, (Option.some.inj ha).symm, h⟩

set_option maxHeartbeats 8000000 in
set_option maxRecDepth 100000 in
set_option cbv.maxSteps 100000000 in
theorem awake10_ok (w : World) : Calls Try.prog 22 #[] w fun e w' => e = .returned (.bool true) ∧ Chg (fun _ _ => False) w w' := by
  refine X.begin (rg := []) (N := []) (ss := []) Try.func22 rfl B22_ok rfl rfl Sat.std0 ?_
  have hb0 : ∀ x ∈ (#[] : Array Int).toList, 0 ≤ x ∧ x < 256 := fun x hx => by simp at hx
  have hb3 : ∀ x ∈ (#[3] : Array Int).toList, 0 ≤ x ∧ x < 256 := fun x hx => by
    obtain rfl : x = 3 := by simpa using hx
    decide
  refine X.goP ([(5, .bool (.lit true)), (8, .bool (.lit true)), (12, .bool (.lit false))]) T22_ok 400 _ rfl Try.results22 (fun pr fin hpr hfin => ?_)
  conv => cbv
  have hin : ∀ w1 : World, InB none 0 #[] w1 := fun w1 => ⟨rfl, fun h => absurd h (Nat.lt_irrefl 0)⟩
  refine ⟨hpr _ fun _ => ⟨Try.call26, fun N w1 args _ hS ha => ?_⟩, hpr _ fun _ => ⟨Try.call28, fun N w1 args _ hS ha => ?_⟩, hpr _ fun _ => ⟨Try.call26, fun N w1 args _ hS ha => ?_⟩, hfin _ _ ?_⟩
  · obtain ⟨p, c, rfl, h3⟩ := awake_args hS rfl rfl ha
    refine (quorum_ok 0 7 none p 0 1 0 c #[] #[3] 1 w1 (by decide) (by decide) (by decide) (hin w1) h3 hb0 hb3).mono fun e w' ⟨he, hc⟩ => ⟨_, he, by rw [B_neg quoC_7]; rfl, hc⟩
  · obtain ⟨p, c, rfl, h3⟩ := awake_args hS rfl rfl ha
    refine (all_ok 0 8 none p 0 1 0 c #[] #[3] 1 w1 (by decide) (by decide) (by decide) (hin w1) h3 hb0 hb3).mono fun e w' ⟨he, hc⟩ => ⟨_, he, by rw [B_pos allC_8]; rfl, hc⟩
  · obtain ⟨p, c, rfl, h3⟩ := awake_args hS rfl rfl ha
    refine (quorum_ok 0 8 none p 0 1 0 c #[] #[3] 1 w1 (by decide) (by decide) (by decide) (hin w1) h3 hb0 hb3).mono fun e w' ⟨he, hc⟩ => ⟨_, he, by rw [B_pos quoC_8]; rfl, hc⟩
  · refine X.done T22_ok rfl (fun N w' v hN hS hv => ?_)
    exact ⟨fin_bool hv rfl, hS.chg.none⟩

end Go.Proofs.Ythaffebapmkppaa

namespace Go.Proofs.Ythaffebapmkppaa
open Go Go.Eng Go.Sort

theorem maj_all {l : List Int} (h0 : l ≠ []) {s : Nat} (h : ∀ x ∈ l, s.testBit x.toNat = true) : maj l s := by
  have : cntN l s = l.length := List.countP_eq_length.2 h
  have := List.length_pos_iff.2 h0
  unfold maj
  omega
theorem allC_quoC {C : Nat} {o n : Array Int} {key : Int} {s : Nat} (h : allC C o n key s) : quoC C o n key s := by
  have hsub : ∀ x, x ∈ (ringsL C o n key).flatten → s.testBit x.toNat = true := fun x hx => h.2 x (keepC_mem.2 hx)
  refine ⟨h.1, maj_all (ofL_pos h.1.1) fun x hx => hsub x ?_, fun hc => maj_all (ofL_pos ?_) fun x hx => hsub x ?_⟩
  · rw [ringsL]; split <;> simp [hx]
  · have := h.1.2.2
    rw [if_pos hc] at this
    exact this.1
  · rw [ringsL, if_pos hc]; simp [hx]

/-! ### what is handed in -/
theorem kinds_conf : kindsOf Try.prog 8 35 = some [.int .u64, .slice 5, .slice 5] := by kernel_rfl
theorem nat_wf {z : Int} (h : (Lit.int .u64 z).wf = true) : ∃ n : Nat, z = n ∧ n < 2 ^ 64 := by
  have h : (decide (0 ≤ z) && decide (z ≤ 18446744073709551615)) = true := h
  simp only [Bool.and_eq_true, decide_eq_true_eq] at h
  exact ⟨z.toNat, by omega, by omega⟩
theorem conf_of {W : World} {v : Value} (h : ArgOk Try.prog W 35 v) : ∃ (C : Nat) (po pn : Option Addr) (no nn co cn : Nat) (o n : Array Int), v = .agg #[.int .u64 C, .slice po no co, .slice pn nn cn] ∧ InB po no o W ∧ InB pn nn n W ∧ (∀ x ∈ o.toList, 0 ≤ x ∧ x < 256) ∧ ∀ x ∈ n.toList, 0 ≤ x ∧ x < 256 := by
  obtain ⟨cs, rfl, hc⟩ := h.struct Try.underlying35 kinds_conf
  obtain ⟨v0, r0, rfl, h0, hc⟩ := CellsOk.cons hc
  obtain ⟨v1, r1, rfl, h1, hc⟩ := CellsOk.cons hc
  obtain ⟨v2, r2, rfl, h2, hc⟩ := CellsOk.cons hc
  have oend := CellsOk.nil hc; subst oend
  obtain ⟨z, rfl, hz⟩ := h0
  obtain ⟨C, rfl, _⟩ := nat_wf hz
  obtain ⟨po, no, co, o, rfl, ho, _, hbo⟩ := bytes_of h1
  obtain ⟨pn, nn, cn, n, rfl, hn, _, hbn⟩ := bytes_of h2
  exact ⟨C, po, pn, no, nn, co, cn, o, n, rfl, ho, hn, hbo, hbn⟩

end Go.Proofs.Ythaffebapmkppaa

namespace Go.Proofs.Ythaffebapmkppaa
open Go Go.Eng Go.Sort

end Go.Proofs.Ythaffebapmkppaa

namespace Go.Proofs.Ythaffebapmkppaa
open Go Go.Eng Go.Sort

def SlotP (d : Array Int) (x : Int) (r : Nat) : Prop := r ≤ d.size ∧ (∀ k, k < r → d[k]! < x) ∧ ∀ k, r ≤ k → k < d.size → x ≤ d[k]!

set_option maxRecDepth 100000 in
set_option cbv.maxSteps 100000000 in
theorem snan8_ok (x : Int) (w : World) : Calls Try.prog 71 #[.int .u8 x] w fun e w' => e = .returned (.bool false) ∧ Chg (fun _ _ => False) w w' := by
  refine X.begin (rg := []) (N := []) (ss := [.int .u8 (.v x)]) Try.func71 rfl B71_ok rfl rfl Sat.std0 ?_
  refine X.go T71_ok 400 _ rfl Try.results71 ?_
  conv => arg 2; cbv
  refine X.done T71_ok rfl (fun N w' v hN hS hv => ⟨fin_bool hv ?_, hS.chg.mono fun k o _ h => inR_nil h⟩)
  simp [SB.den, SI.den]

set_option maxHeartbeats 8000000 in
set_option maxRecDepth 100000 in
set_option cbv.maxSteps 100000000 in
theorem search8_ok (p : Option Addr) (n c : Nat) (d : Array Int) (x : Int) (w : World) (hle : n ≤ 100000) (hA : InB p n d w) (hR : ∀ i j, i ≤ j → j < n → d[i]! ≤ d[j]!) :
    Calls Try.prog 55 #[.slice p n c, .int .u8 x] w fun e w' => (∃ r : Nat, e = .returned (.tuple #[.int .i64 r, .bool (decide (r < n ∧ d[r]! = x))]) ∧ SlotP d x r) ∧ Chg (fun _ _ => False) w w' := by
  have hn := hA.1
  obtain ⟨Q, hQ⟩ : ∃ Q : Ending → World → Prop, Q = fun e w' => (∃ r : Nat, e = .returned (.tuple #[.int .i64 r, .bool (decide (r < n ∧ d[r]! = x))]) ∧ SlotP d x r) ∧ Chg (fun _ _ => False) w w' := ⟨_, rfl⟩
  rw [← hQ]
  refine X.begin (rg := []) (N := []) (ss := [.slv p n c, .int .u8 (.v x)]) Try.func55 rfl B55_ok rfl rfl Sat.std0 ?_
  refine X.go T55_ok 400 _ rfl Try.results55 ?_
  conv => arg 2; cbv
  refine X.loop (fun _ : {g : Nat × Nat // g.1 ≤ g.2 ∧ g.2 ≤ n ∧ (∀ k, k < g.1 → d[k]! < x) ∧ ∀ k, g.2 ≤ k → k < n → x ≤ d[k]!} => mkE Try.prog Try.f55 Q w (InR [] []) (elsewhere [] [] w) (fun _ _ => False) (fun _ => True) [] B55)
    (fun g => ⟨[(0, .val (.slv p n c)), (1, .val (.int .u8 (.v x))), (6, .val (.int .i64 (.nat n))), (7, .val (.int .i64 (.nat g.1.1))), (8, .val (.int .i64 (.nat g.1.2)))], []⟩) (fun g => g.1.2 - g.1.1) (fun _ => ⟨rfl, rfl, rfl, rfl⟩) (fun N ac w' hN hf hS => ⟨⟨(0, n), Nat.zero_le _, Nat.le_refl _, fun k hk => absurd hk (Nat.not_lt_zero k), fun k h1 h2 => absurd h2 (by simp only at h1; omega)⟩, ?_⟩) (fun g q hq => ?_)
  · exact At.again hf hS (by repeat first | exact trivial | refine ⟨⟨_, rfl, .inl ⟨rfl, rfl⟩⟩, ?_⟩ | refine ⟨⟨_, rfl, .inr ⟨_, rfl, rfl⟩⟩, ?_⟩ | refine ⟨⟨_, rfl, .inr ⟨_, rfl, by simp (disch := omega) [SV.den, SI.den, wrapU, wrapD] <;> omega⟩⟩, ?_⟩) trivial
  obtain ⟨⟨lo, hi⟩, h1, h2, h3, h4⟩ := g
  simp only at h1 h2 h3 h4
  show X (mkE Try.prog Try.f55 Q w (InR [] []) (elsewhere [] [] w) (fun _ _ => False) (fun _ => True) [] B55) _ ⟨[(0, .val (.slv p n c)), (1, .val (.int .u8 (.v x))), (6, .val (.int .i64 (.nat n))), (7, .val (.int .i64 (.nat lo))), (8, .val (.int .i64 (.nat hi)))], []⟩
  refine X.go T55_ok 400 _ rfl Try.results55 ?_
  conv => arg 2; cbv
  refine X.cond rfl (fun hlt => ?_) (fun hge => ?_)
  · simp only [SB.T, SI.den] at hlt
    have hlt : lo < hi := by omega
    obtain ⟨b, y, hp, hd⟩ := hA.2 (by omega)
    obtain ⟨m, hm⟩ : ∃ m, m = (lo + hi) / 2 := ⟨_, rfl⟩
    obtain ⟨z, hz⟩ : ∃ z, z = d[m]! := ⟨_, rfl⟩
    obtain ⟨oi, hoi⟩ : ∃ o, o = y + m := ⟨_, rfl⟩
    have hix : elsewhere [] [] w b (oi + 0) = some (.int .u8 z) := by rw [Nat.add_zero, els_old, hoi, hz]; exact hd m (by omega)
    refine X.go T55_ok 12 _ rfl Try.results55 ?_
    conv => arg 2; cbv
    have hw : IntKind.i64.wrap ((IntKind.u64.wrap (IntKind.i64.wrap ((lo : Int) + (hi : Int)))).fdiv (2 ^ 1)) = (m : Int) := by
      rw [show (lo : Int) + (hi : Int) = ((lo + hi : Nat) : Int) by omega, wrapN ((lo + hi : Nat) : Int) (by omega) (by omega), wrapU64 (lo + hi) (by omega), shr_nat, wrapN (((lo + hi) / 2 ^ 1 : Nat) : Int) (by omega) (by omega), hm]
    refine X.reval 9 (.int .i64 (.nat m)) rfl (fun N _ v hv => by rw [← hv]; simp only [SV.den, SI.den, hw]) ?_
    obtain ⟨lt, hlt2⟩ : ∃ b, b = ltInt z x := ⟨_, rfl⟩
    refine X.goP ([(24, .ext b oi 0), (25, .int .u8 (.v z)), (27, .bool (.v lt))]) T55_ok 400 _ rfl Try.results55 (fun pr fin hpr hfin => ?_)
    conv => cbv
    refine ⟨hpr _ (less_call rfl hlt2), hpr _ (ValOk.im1 rfl Try.isAgg5 (fun _ => rfl) fun _ => hix), hpr _ (ValOk.at (z := m) rfl rfl (fun _ => rfl) Try.underlying22 Try.sizeOf5 (fun _ => by omega) hp (by omega)), hfin _ _ ?_⟩
    refine X.cond rfl (fun hT => ?_) (fun hF => ?_)
    · simp only [SB.T, SB.F] at hT
      have hzx : z < x := by rw [hlt2] at hT; exact of_decide_eq_true hT
      refine X.go T55_ok 400 _ rfl Try.results55 ?_
      conv => arg 2; cbv
      refine X.back (fun N ac w' hN hf hS => hq ⟨(m + 1, hi), by simp only; omega, h2, fun k hk => ?_, h4⟩ ac w' (by simp only; omega) ?_)
      · simp only at hk
        have := hR k m (by omega) (by omega)
        omega
      · exact At.again hf hS (by repeat first | exact trivial | refine ⟨⟨_, rfl, .inl ⟨rfl, rfl⟩⟩, ?_⟩ | refine ⟨⟨_, rfl, .inr ⟨_, rfl, rfl⟩⟩, ?_⟩ | refine ⟨⟨_, rfl, .inr ⟨_, rfl, by simp (disch := omega) [SV.den, SI.den, wrapU, wrapD] <;> omega⟩⟩, ?_⟩) trivial
    · simp only [SB.T, SB.F] at hF
      have hzx : ¬ z < x := by rw [hlt2] at hF; exact of_decide_eq_false hF
      refine X.go T55_ok 400 _ rfl Try.results55 ?_
      conv => arg 2; cbv
      refine X.back (fun N ac w' hN hf hS => hq ⟨(lo, m), by simp only; omega, by simp only; omega, h3, fun k hk1 hk2 => ?_⟩ ac w' (by simp only; omega) ?_)
      · simp only at hk1
        have := hR m k hk1 hk2
        omega
      · exact At.again hf hS (by repeat first | exact trivial | refine ⟨⟨_, rfl, .inl ⟨rfl, rfl⟩⟩, ?_⟩ | refine ⟨⟨_, rfl, .inr ⟨_, rfl, rfl⟩⟩, ?_⟩ | refine ⟨⟨_, rfl, .inr ⟨_, rfl, by simp (disch := omega) [SV.den, SI.den, wrapU, wrapD] <;> omega⟩⟩, ?_⟩) trivial
  · simp only [SB.F, SI.den] at hge
    have hlo : lo = hi := by omega
    subst hlo
    have hS1 : SlotP d x lo := ⟨by omega, h3, fun k hk1 hk2 => h4 k hk1 (by omega)⟩
    refine X.go T55_ok 7 _ rfl Try.results55 ?_
    conv => arg 2; cbv
    by_cases hl : lo < n
    · refine X.reval 34 (.bool (.lit true)) rfl (fun N _ v hv => by rw [← hv]; simp only [SV.den, SB.den, SI.den]; exact congrArg (fun b => some (Value.bool b)) (decide_eq_true (by omega)).symm) ?_
      obtain ⟨b, y, hp, hd⟩ := hA.2 (by omega)
      obtain ⟨z, hz⟩ : ∃ z, z = d[lo]! := ⟨_, rfl⟩
      obtain ⟨oi, hoi⟩ : ∃ o, o = y + lo := ⟨_, rfl⟩
      have hix : elsewhere [] [] w b (oi + 0) = some (.int .u8 z) := by rw [Nat.add_zero, els_old, hoi, hz]; exact hd lo (by omega)
      refine X.goP ([(38, .ext b oi 0), (39, .int .u8 (.v z)), (45, .ext b oi 0), (46, .int .u8 (.v z)), (47, .bool (.lit false)), (50, .bool (.lit false))]) T55_ok 400 _ rfl Try.results55 (fun pr fin hpr hfin => ?_)
      conv => cbv
      refine ⟨hpr _ (.of Try.call71 [.int .u8 x] (.bool false) (fun _ => rfl) (fun _ => rfl) fun _ w1 _ => snan8_ok x w1), hpr _ (.of Try.call71 [.int .u8 z] (.bool false) (fun _ => rfl) (fun _ => rfl) fun _ w1 _ => snan8_ok z w1), hpr _ (ValOk.im1 rfl Try.isAgg5 (fun _ => rfl) fun _ => hix), hpr _ (ValOk.at (z := lo) rfl rfl (fun _ => rfl) Try.underlying22 Try.sizeOf5 (fun _ => hl) hp (by omega)),
        hpr _ (ValOk.im1 rfl Try.isAgg5 (fun _ => rfl) fun _ => hix), hpr _ (ValOk.at (z := lo) rfl rfl (fun _ => rfl) Try.underlying22 Try.sizeOf5 (fun _ => hl) hp (by omega)), hfin _ _ ?_⟩
      refine X.done T55_ok rfl (fun N w' v hN hS hv => ?_)
      rw [hQ]
      refine ⟨⟨lo, ?_, hS1⟩, hS.chg.none⟩
      simp only [resV, SV.den, SV.denL, SI.den, SB.den, Option.some.injEq] at hv
      rw [← hv, ← hz]
      simp [hl]
      rfl
    · refine X.reval 34 (.bool (.lit false)) rfl (fun N _ v hv => by rw [← hv]; simp only [SV.den, SB.den, SI.den]; exact congrArg (fun b => some (Value.bool b)) (decide_eq_false (by omega)).symm) ?_
      refine X.go T55_ok 400 _ rfl Try.results55 ?_
      conv => arg 2; cbv
      refine X.done T55_ok rfl (fun N w' v hN hS hv => ?_)
      rw [hQ]
      refine ⟨⟨lo, ?_, hS1⟩, hS.chg.none⟩
      simp only [resV, SV.den, SV.denL, SI.den, SB.den, Option.some.injEq] at hv
      rw [← hv]
      simp [hl]

end Go.Proofs.Ythaffebapmkppaa

namespace Go.Proofs.Ythaffebapmkppaa
open Go Go.Eng Go.Sort

/-- the nodes behind a step, the numbers below k -/
def stT (l : List Int) (x : Int) : Nat → List Int
  | 0 => []
  | k + 1 => if decide ((k : Int) ∈ l) != decide ((k : Int) = x) then stT l x k ++ [(k : Int)] else stT l x k
theorem stT_len (l : List Int) (x : Int) : ∀ k, (stT l x k).length ≤ k
  | 0 => Nat.le_refl _
  | k + 1 => by
    have := stT_len l x k
    unfold stT
    split
    · simp; omega
    · omega
open Classical in
/-- a step: the error's number, the configuration -/
noncomputable def stepO (C : Nat) (o n : Array Int) (x : Int) : Nat × Nat × List Int × List Int :=
  if mayC C o n ∧ ¬ (C % 2 = 0 ∧ 63 < x) then
    if C % 2 = 1 then (if 9223372036854775808 ≤ C then (7, 0, [], []) else (0, C + 1, [], n.toList))
    else if stT n.toList x 64 = [] then (1, 0, [], []) else if 9223372036854775808 ≤ C then (7, 0, [], []) else (0, C + 1, n.toList, stT n.toList x 64)
  else (1, 0, [], [])

def InM (p : Option Addr) (n : Nat) (l : List Int) (M : Mem) : Prop := n = l.length ∧ (0 < n → ∃ b y, p = some ⟨b, y, none⟩ ∧ ∀ j, j < n → M b (y + j) = some (.int .u8 l[j]!))
def TM (p : Option Addr) (m : Nat) (l : List Int) (w w' : World) (M : Mem) : Prop := InM p m l M ∧ ∀ k o v, w.heap.size ≤ k → w'.cell? ⟨k, o, none⟩ = some v → M k o = some v
/-- what a step hands back -/
def StepR (p : Option Addr) (m : Nat) (l : List Int) (r : Nat × Nat × List Int × List Int) (w : World) : Ending → World → Prop := fun e w' =>
  (∃ p1 n1 c1 p2 n2 c2, e = .returned (.tuple #[.agg #[.int .u64 r.2.1, .slice p1 n1 c1, .slice p2 n2 c2], .int .i64 r.1]) ∧ ∀ M, TM p m l w w' M → InM p1 n1 r.2.2.1 M ∧ InM p2 n2 r.2.2.2 M) ∧ Chg (fun _ _ => False) w w'
theorem InM.nil (p : Option Addr) (M : Mem) : InM p 0 [] M := ⟨rfl, fun h => absurd h (Nat.lt_irrefl 0)⟩
theorem InB.inM {p : Option Addr} {n : Nat} {d : Array Int} {w : World} {M : Mem} (h : InB p n d w) (hM : ∀ k o v, elsewhere [] [] w k o = some v → M k o = some v) : InM p n d.toList M := ⟨by rw [← h.1]; simp, fun h0 => by
  obtain ⟨b, y, h1, h2⟩ := h.2 h0
  have hn := h.1
  refine ⟨b, y, h1, fun j hj => hM _ _ _ ?_⟩
  rw [els_old, h2 j (by omega), getElem!_pos d j (by omega), getElem!_pos d.toList j (by simp; omega)]
  simp⟩
theorem InM.inB {p : Option Addr} {n : Nat} {l : List Int} {M : Mem} (h : InM p n l M) {w : World} (hM : ∀ k o v, M k o = some v → w.cell? ⟨k, o, none⟩ = some v) : InB p n l.toArray w := ⟨by simp [h.1], fun h0 => by
  obtain ⟨b, y, h1, h2⟩ := h.2 h0
  refine ⟨b, y, h1, fun j hj => ?_⟩
  have hj : j < n := by have := h.1; simpa [this] using hj
  rw [hM _ _ _ (h2 j hj)]
  simp [← h.1, hj]⟩
theorem InM.mono {p : Option Addr} {n : Nat} {l : List Int} {M M' : Mem} (h : InM p n l M) (hM : ∀ k o v, M k o = some v → M' k o = some v) : InM p n l M' := ⟨h.1, fun h0 => by
  obtain ⟨b, y, h1, h2⟩ := h.2 h0
  exact ⟨b, y, h1, fun j hj => hM _ _ _ (h2 j hj)⟩⟩
theorem stepR_err {p : Option Addr} {m : Nat} {l : List Int} {k : Nat} {w w' : World} {N : Nums} {v : Value} (hv : (resV [.agg [.int .u64 (.lit 0), .raw (.slice none 0 0), .raw (.slice none 0 0)], .int .i64 (.lit k)]).den N = some v) (hc : Chg (fun _ _ => False) w w') : StepR p m l (k, 0, [], []) w (.returned v) w' := by
  have hv : some (Value.tuple #[.agg #[.int .u64 0, .slice none 0 0, .slice none 0 0], .int .i64 k]) = some v := hv
  have hv := Option.some.inj hv
  exact ⟨⟨none, 0, 0, none, 0, 0, congrArg Ending.returned hv.symm, fun M _ => ⟨InM.nil _ _, InM.nil _ _⟩⟩, hc⟩

end Go.Proofs.Ythaffebapmkppaa

namespace Go.Proofs.Ythaffebapmkppaa
open Go Go.Eng Go.Sort

end Go.Proofs.Ythaffebapmkppaa

namespace Go.Proofs.Ythaffebapmkppaa
open Go Go.Eng Go.Sort

theorem stT_mem {l : List Int} {x y : Int} : ∀ {k : Nat}, y ∈ stT l x k ↔ (0 ≤ y ∧ y < k) ∧ (decide (y ∈ l) != decide (y = x)) = true
  | 0 => by simp only [stT, List.not_mem_nil, false_iff]; omega
  | k + 1 => by
    unfold stT
    by_cases h : (decide ((k : Int) ∈ l) != decide ((k : Int) = x)) = true
    · rw [if_pos h, List.mem_append, stT_mem, List.mem_singleton]
      constructor
      · rintro (⟨h1, h2⟩ | rfl)
        · exact ⟨⟨h1.1, by omega⟩, h2⟩
        · exact ⟨⟨by omega, by omega⟩, h⟩
      · rintro ⟨h1, h2⟩
        by_cases hy : y = k
        · exact .inr hy
        · exact .inl ⟨⟨h1.1, by omega⟩, h2⟩
    · rw [if_neg h, stT_mem]
      constructor
      · rintro ⟨h1, h2⟩
        exact ⟨⟨h1.1, by omega⟩, h2⟩
      · rintro ⟨h1, h2⟩
        by_cases hy : y = k
        · rw [hy] at h2; exact absurd h2 h
        · exact ⟨⟨h1.1, by omega⟩, h2⟩
theorem stT_lt (l : List Int) (x : Int) : ∀ k, (stT l x k).Pairwise (· < ·)
  | 0 => List.Pairwise.nil
  | k + 1 => by
    unfold stT
    split
    · refine List.pairwise_append.2 ⟨stT_lt l x k, List.pairwise_singleton _ _, fun a ha b hb => ?_⟩
      rw [List.mem_singleton] at hb
      have := (stT_mem.1 ha).1
      omega
    · exact stT_lt l x k
end Go.Proofs.Ythaffebapmkppaa

namespace Go.Proofs.Ythaffebapmkppaa
open Go Go.Eng Go.Sort

theorem stepO_len {C : Nat} {o n : Array Int} {x : Int} (hn : n.size ≤ 100) : (stepO C o n x).2.2.1.length ≤ 100 ∧ (stepO C o n x).2.2.2.length ≤ 100 := by
  have h := stT_len n.toList x 64
  have h2 : n.toList.length ≤ 100 := by simpa using hn
  unfold stepO
  split
  · split
    · split
      · exact ⟨Nat.zero_le _, Nat.zero_le _⟩
      · exact ⟨Nat.zero_le _, h2⟩
    · split
      · exact ⟨Nat.zero_le _, Nat.zero_le _⟩
      · split
        · exact ⟨Nat.zero_le _, Nat.zero_le _⟩
        · exact ⟨h2, by show (stT n.toList x 64).length ≤ 100; omega⟩
  · exact ⟨Nat.zero_le _, Nat.zero_le _⟩

end Go.Proofs.Ythaffebapmkppaa

namespace Go.Proofs.Ythaffebapmkppaa
open Go Go.Eng Go.Sort

theorem cnt_disj {p q : Int → Bool} : ∀ {l : List Int}, (∀ x ∈ l, ¬ (p x = true ∧ q x = true)) → l.countP p + l.countP q ≤ l.length
  | [], _ => Nat.le_refl _
  | x :: l, h => by
    have h1 := cnt_disj (l := l) fun y hy => h y (List.mem_cons_of_mem _ hy)
    have h2 := h x (by simp)
    rw [List.countP_cons, List.countP_cons, List.length_cons]
    cases hp : p x <;> cases hq : q x <;> simp_all <;> omega
theorem maj_meet {l : List Int} {a b : Nat} (ha : maj l a) (hb : maj l b) : a &&& b ≠ 0 := fun h0 => by
  have := cnt_disj (l := l) (p := fun x => a.testBit x.toNat) (q := fun x => b.testBit x.toNat) fun x _ ⟨h1, h2⟩ => by
    have := Nat.testBit_and a b x.toNat
    rw [h0, h1, h2] at this
    simp at this
  unfold maj cntN at ha hb
  omega
theorem step_meet {C : Nat} {o n : Array Int} {x key : Int} {a b : Nat} (h0 : (stepO C o n x).1 = 0) (ha : quoC C o n key a) (hb : quoC (stepO C o n x).2.1 (stepO C o n x).2.2.1.toArray (stepO C o n x).2.2.2.toArray key b) : a &&& b ≠ 0 := by
  have hA := ha.2.1
  by_cases hp : mayC C o n ∧ ¬ (C % 2 = 0 ∧ 63 < x)
  · have e : stepO C o n x = if C % 2 = 1 then (if 9223372036854775808 ≤ C then (7, 0, [], []) else (0, C + 1, [], n.toList)) else if stT n.toList x 64 = [] then (1, 0, [], []) else if 9223372036854775808 ≤ C then (7, 0, [], []) else (0, C + 1, n.toList, stT n.toList x 64) := by
      rw [stepO, if_pos hp]
    by_cases hc : C % 2 = 1
    · rw [if_pos hc] at e
      by_cases h9 : 9223372036854775808 ≤ C
      · rw [if_pos h9] at e; rw [e] at h0; cases h0
      · rw [if_neg h9] at e
        rw [e] at hb
        exact maj_meet hA hb.2.1
    · rw [if_neg hc] at e
      by_cases hs : stT n.toList x 64 = []
      · rw [if_pos hs] at e; rw [e] at h0; cases h0
      rw [if_neg hs] at e
      by_cases h9 : 9223372036854775808 ≤ C
      · rw [if_pos h9] at e; rw [e] at h0; cases h0
      · rw [if_neg h9] at e
        rw [e] at hb
        exact maj_meet hA (hb.2.2 (by show (C + 1) % 2 = 1; omega))
  · have e : stepO C o n x = (1, 0, [], []) := by rw [stepO, if_neg hp]
    rw [e] at h0; cases h0

theorem stepO_byte {C : Nat} {o n : Array Int} {x : Int} (hn : ∀ y ∈ n.toList, 0 ≤ y ∧ y < 256) : (∀ y ∈ (stepO C o n x).2.2.1, 0 ≤ y ∧ y < 256) ∧ ∀ y ∈ (stepO C o n x).2.2.2, 0 ≤ y ∧ y < 256 := by
  have h : ∀ y ∈ stT n.toList x 64, 0 ≤ y ∧ y < 256 := fun y hy => by
    have := (stT_mem.1 hy).1
    omega
  have h0 : ∀ y ∈ ([] : List Int), 0 ≤ y ∧ y < 256 := fun y hy => absurd hy (by simp)
  unfold stepO
  split
  · split
    · split
      · exact ⟨h0, h0⟩
      · exact ⟨h0, hn⟩
    · split
      · exact ⟨h0, h0⟩
      · split
        · exact ⟨h0, h0⟩
        · exact ⟨hn, h⟩
  · exact ⟨h0, h0⟩

set_option maxHeartbeats 8000000 in
set_option maxRecDepth 100000 in
set_option cbv.maxSteps 100000000 in
theorem meet_of (C a b : Nat) (po pn : Option Addr) (no nn co cn : Nat) (o n : Array Int) (x key : Int) (w : World) (ha8 : a < 2 ^ 64) (hb8 : b < 2 ^ 64) (hx0 : 0 ≤ x) (ho : InB po no o w) (hn : InB pn nn n w) (hbo : ∀ x ∈ o.toList, 0 ≤ x ∧ x < 256) (hbn : ∀ x ∈ n.toList, 0 ≤ x ∧ x < 256)
    (hstep : ∀ w1 : World, no ≤ 100 → nn ≤ 100 → InB po no o w1 → InB pn nn n w1 → Calls Try.prog 32 #[.agg #[.int .u64 C, .slice po no co, .slice pn nn cn], .int .u8 x] w1 (StepR pn nn n.toList (stepO C o n x) w1)) :
    Calls Try.prog 9 #[.agg #[.int .u64 C, .slice po no co, .slice pn nn cn], .int .u8 x, .int .u8 key, .int .u64 a, .int .u64 b] w fun e w' => e = .returned (.bool true) ∧ Chg (fun _ _ => False) w w' := by
  obtain ⟨Q, hQ⟩ : ∃ Q : Ending → World → Prop, Q = fun e w' => e = .returned (.bool true) ∧ Chg (fun _ _ => False) w w' := ⟨_, rfl⟩
  rw [← hQ]
  refine X.begin (rg := []) (N := []) (ss := [.agg [.int .u64 (.nat C), .slv po no co, .slv pn nn cn], .int .u8 (.v x), .int .u8 (.v key), .int .u64 (.nat a), .int .u64 (.nat b)]) Try.func9 rfl B9_ok rfl rfl Sat.std0 ?_
  by_cases hg : 80 < no ∨ 80 < nn
  · skip
    refine X.goP ([(14, .bool (.lit true)), (20, .bool (.lit true))]) T9_ok 400 _ rfl Try.results9 (fun pr fin hpr hfin => ?_)
    conv => cbv
    refine ⟨hpr _ (.of Try.call22 [] (.bool true) (fun _ => rfl) (fun _ => rfl) fun _ w1 him => awake10_ok w1), hpr _ (.of Try.call21 [.agg #[.int .u64 C, .slice po no co, .slice pn nn cn]] (.bool true) (fun _ => rfl) (fun _ => rfl) fun _ w1 him => by rw [← decide_eq_true hg]; exact great10_ok C po pn no nn co cn w1), hfin _ _ ?_⟩
    exact X.done T9_ok rfl (fun N w' v hN hS hv => by rw [hQ]; exact ⟨fin_bool hv rfl, hS.chg.none⟩)
  have hno : no ≤ 100 := by omega
  have hnn : nn ≤ 100 := by omega
  by_cases hmay : mayC C o n
  case neg =>
    refine X.goP ([(14, .bool (.lit false)), (17, .bool (.lit false)), (20, .bool (.lit true))]) T9_ok 400 _ rfl Try.results9 (fun pr fin hpr hfin => ?_)
    conv => cbv
    refine ⟨hpr _ (.of Try.call22 [] (.bool true) (fun _ => rfl) (fun _ => rfl) fun _ w1 him => awake10_ok w1),
      hpr _ (.of Try.call24 [.agg #[.int .u64 C, .slice po no co, .slice pn nn cn]] (.bool false) (fun _ => rfl) (fun _ => rfl) fun _ w1 him => by rw [← B_neg hmay]; exact cmay10_ok C po pn no nn co cn o n w1 (by omega) (by omega) (ho.im him) (hn.im him)),
      hpr _ (.of Try.call21 [.agg #[.int .u64 C, .slice po no co, .slice pn nn cn]] (.bool false) (fun _ => rfl) (fun _ => rfl) fun _ w1 him => by rw [← decide_eq_false hg]; exact great10_ok C po pn no nn co cn w1), hfin _ _ ?_⟩
    exact X.done T9_ok rfl (fun N w' v hN hS hv => by rw [hQ]; exact ⟨fin_bool hv rfl, hS.chg.none⟩)
  obtain ⟨qa, hqa⟩ : ∃ q, q = B (quoC C o n key a) := ⟨_, rfl⟩
  obtain ⟨qb, hqb⟩ : ∃ q, q = B (quoC C o n key b) := ⟨_, rfl⟩
  obtain ⟨aa, haa⟩ : ∃ q, q = B (allC C o n key a) := ⟨_, rfl⟩
  have hand := bits_and a b ha8 hb8
  refine X.goP ([(14, .bool (.lit false)), (17, .bool (.lit true)), (24, .bool (.v qa)), (29, .bool (.v qb))]) T9_ok 400 _ rfl Try.results9 (fun pr fin hpr hfin => ?_)
  conv => cbv
  refine ⟨hpr _ (.of Try.call26 [.agg #[.int .u64 C, .slice po no co, .slice pn nn cn], .int .u8 key, .int .u64 b] (.bool qb) (fun _ => rfl) (fun _ => rfl) fun _ w1 him => by rw [hqb]; exact quorum_ok C b po pn no nn co cn o n key w1 hno hnn hb8 (ho.im him) (hn.im him) hbo hbn),
    hpr _ (.of Try.call26 [.agg #[.int .u64 C, .slice po no co, .slice pn nn cn], .int .u8 key, .int .u64 a] (.bool qa) (fun _ => rfl) (fun _ => rfl) fun _ w1 him => by rw [hqa]; exact quorum_ok C a po pn no nn co cn o n key w1 hno hnn ha8 (ho.im him) (hn.im him) hbo hbn),
    hpr _ (.of Try.call24 [.agg #[.int .u64 C, .slice po no co, .slice pn nn cn]] (.bool true) (fun _ => rfl) (fun _ => rfl) fun _ w1 him => by rw [← B_pos hmay]; exact cmay10_ok C po pn no nn co cn o n w1 (by omega) (by omega) (ho.im him) (hn.im him)),
    hpr _ (.of Try.call21 [.agg #[.int .u64 C, .slice po no co, .slice pn nn cn]] (.bool false) (fun _ => rfl) (fun _ => rfl) fun _ w1 him => by rw [← decide_eq_false hg]; exact great10_ok C po pn no nn co cn w1), hfin _ _ ?_⟩
  clear hpr hfin
  refine X.cond rfl (fun hT => ?_) (fun _ => ?_)
  · simp only [SB.T, SB.F, SI.den, hand] at hT
    exfalso
    obtain ⟨⟨h1, h2⟩, h3⟩ := hT
    rw [hqa] at h1
    rw [hqb] at h2
    exact maj_meet (B_iff.1 h1).2.1 (B_iff.1 h2).2.1 (by omega)
  refine X.go T9_ok 400 _ rfl Try.results9 ?_
  conv => arg 2; cbv
  have hlen := stepO_len (C := C) (o := o) (x := x) (show n.size ≤ 100 by rw [hn.1]; exact hnn)
  have hbyte := stepO_byte (C := C) (o := o) (x := x) hbn
  have hmeet := fun h0 h1 h2 => step_meet (C := C) (o := o) (n := n) (x := x) (key := key) (a := a) (b := b) h0 h1 h2
  obtain ⟨r, hr⟩ : ∃ r, r = stepO C o n x := ⟨_, rfl⟩
  rw [← hr] at hlen hbyte hmeet
  obtain ⟨er, C', l1, l2⟩ := r
  simp only at hlen hbyte hmeet
  refine X.call rfl rfl rfl rfl Try.call32 (fun N w1 args hN hS ha => ?_)
  have ha : args = [.agg #[.int .u64 C, .slice po no co, .slice pn nn cn], .int .u8 x] := (Option.some.inj ha).symm
  rw [ha]
  refine (hstep w1 hno hnn (ho.stays hS.chg.none) (hn.stays hS.chg.none)).mono fun e w2 hR => ?_
  rw [← hr] at hR
  obtain ⟨⟨p1, n1, c1, p2, n2, c2, he, hmem⟩, hch⟩ := hR
  refine ⟨_, he, Goes.newMem hN hS hch (r := resV [.agg [.int .u64 (.nat C'), .slv p1 n1 c1, .slv p2 n2 c2], .int .i64 (.nat er)]) rfl rfl (fun hold hnew => ?_)⟩
  obtain ⟨im, him⟩ : ∃ im, im = imNew (elsewhere [] [] w) w1 w2 := ⟨_, rfl⟩
  have hnM : InM pn nn n.toList im := hn.inM fun k o v h => by rw [him]; exact hold _ _ _ h
  have hoM : InM po no o.toList im := ho.inM fun k o v h => by rw [him]; exact hold _ _ _ h
  obtain ⟨h1, h2⟩ := hmem im ⟨hnM, fun k o v hk h => by rw [him]; exact hnew _ _ _ hk h⟩
  show X (mkE Try.prog Try.f9 Q w (InR [] []) (imNew (elsewhere [] [] w) w1 w2) (fun _ _ => False) (fun _ => True) [] B9) _ _
  rw [← him]
  clear him hold hnew hch he ha hS hN hmem
  have hoB : ∀ {w' : World}, (∀ k o v, im k o = some v → w'.cell? ⟨k, o, none⟩ = some v) → InB po no o w' := fun h => by simpa using hoM.inB h
  have hnB : ∀ {w' : World}, (∀ k o v, im k o = some v → w'.cell? ⟨k, o, none⟩ = some v) → InB pn nn n w' := fun h => by simpa using hnM.inB h
  simp only at h1 h2
  have hb1 : n1 ≤ 100 := by have := h1.1; omega
  have hb2 : n2 ≤ 100 := by have := h2.1; omega
  refine X.go T9_ok 400 _ rfl Try.results9 ?_
  conv => arg 2; cbv
  refine X.cond rfl (fun hT => ?_) (fun hF => ?_)
  · skip
    refine X.goP ([(45, .bool (.lit true))]) T9_ok 400 _ rfl Try.results9 (fun pr fin hpr hfin => ?_)
    conv => cbv
    refine ⟨hpr _ (.of Try.call22 [] (.bool true) (fun _ => rfl) (fun _ => rfl) fun _ w1 him => awake10_ok w1), hfin _ _ ?_⟩
    exact X.done T9_ok rfl (fun N w' v hN hS hv => by rw [hQ]; exact ⟨fin_bool hv rfl, hS.chg.none⟩)
  simp only [SB.F, SI.den] at hF
  have he0 : er = 0 := by omega
  obtain ⟨qd, hqd⟩ : ∃ q, q = B (quoC C' l1.toArray l2.toArray key b) := ⟨_, rfl⟩
  have hm := hmeet he0
  refine X.goP ([(49, .bool (.v qa)), (55, .bool (.v qd)), (68, .bool (.v aa)), (74, .bool (.v qa)), (78, .bool (.lit true))]) T9_ok 400 _ rfl Try.results9 (fun pr fin hpr hfin => ?_)
  conv => cbv
  refine ⟨hpr _ (.of Try.call22 [] (.bool true) (fun _ => rfl) (fun _ => rfl) fun _ w1 him => awake10_ok w1),
    hpr _ (.of Try.call26 [.agg #[.int .u64 C, .slice po no co, .slice pn nn cn], .int .u8 key, .int .u64 a] (.bool qa) (fun _ => rfl) (fun _ => rfl) fun _ w1 him => by rw [hqa]; exact quorum_ok C a po pn no nn co cn o n key w1 hno hnn ha8 (hoB him) (hnB him) hbo hbn),
    hpr _ (.of Try.call28 [.agg #[.int .u64 C, .slice po no co, .slice pn nn cn], .int .u8 key, .int .u64 a] (.bool aa) (fun _ => rfl) (fun _ => rfl) fun _ w1 him => by rw [haa]; exact all_ok C a po pn no nn co cn o n key w1 hno hnn ha8 (hoB him) (hnB him) hbo hbn),
    hpr _ (.of Try.call26 [.agg #[.int .u64 C', .slice p1 n1 c1, .slice p2 n2 c2], .int .u8 key, .int .u64 b] (.bool qd) (fun _ => rfl) (fun _ => rfl) fun _ w1 him => by rw [hqd]; exact quorum_ok C' b p1 p2 n1 n2 c1 c2 l1.toArray l2.toArray key w1 hb1 hb2 hb8 (h1.inB him) (h2.inB him) hbyte.1 hbyte.2),
    hpr _ (.of Try.call26 [.agg #[.int .u64 C, .slice po no co, .slice pn nn cn], .int .u8 key, .int .u64 a] (.bool qa) (fun _ => rfl) (fun _ => rfl) fun _ w1 him => by rw [hqa]; exact quorum_ok C a po pn no nn co cn o n key w1 hno hnn ha8 (hoB him) (hnB him) hbo hbn), hfin _ _ ?_⟩
  refine X.done T9_ok rfl (fun N w' v hN hS hv => ?_)
  rw [hQ]
  refine ⟨fin_bool hv ?_, hS.chg.none⟩
  have f1 : qa = true → qd = true → a &&& b ≠ 0 := fun h1 h2 => hm (B_iff.1 (by rw [← hqa]; exact h1)) (B_iff.1 (by rw [← hqd]; exact h2))
  have f2 : aa = true → qa = true := fun h => by
    rw [haa] at h
    rw [hqa]
    exact B_pos (allC_quoC (B_iff.1 h))
  simp only [SB.den, SI.den, hand]
  cases qa <;> cases qd <;> cases aa <;> simp_all

end Go.Proofs.Ythaffebapmkppaa

namespace Go.Proofs.Ythaffebapmkppaa
open Go Go.Eng Go.Sort

theorem slot_take {l : List Int} {x : Int} {r : Nat} (h : SlotP l.toArray x r) : ∀ y ∈ l.take r, y < x := fun y hy => by
  obtain ⟨i, hi, rfl⟩ := List.getElem_of_mem hy
  have hr := h.1
  simp only [List.size_toArray] at hr
  have hi2 : i < r ∧ i < l.length := by simpa [List.length_take, Nat.lt_min] using hi
  have := h.2.1 i hi2.1
  simpa [hi2.2] using this
theorem slot_drop {l : List Int} {x : Int} {r : Nat} (h : SlotP l.toArray x r) : ∀ y ∈ l.drop r, x ≤ y := fun y hy => by
  obtain ⟨i, hi, rfl⟩ := List.getElem_of_mem hy
  have hi2 : r + i < l.length := by simp at hi; omega
  have := h.2.2 (r + i) (by omega) (by simpa using hi2)
  simpa [hi2] using this
theorem step_ins {l : List Int} {x : Int} {r : Nat} (h : SlotP l.toArray x r) (hl : l.Pairwise (· < ·)) (h64 : ∀ y ∈ l, 0 ≤ y ∧ y < 64) (hx : 0 ≤ x ∧ x < 64) (hn : x ∉ l) : stT l x 64 = l.take r ++ x :: l.drop r := by
  have hsp : ∀ y, y ∈ l ↔ y ∈ l.take r ∨ y ∈ l.drop r := fun y => by rw [← List.mem_append, List.take_append_drop]
  have hpw := hl
  rw [← List.take_append_drop r l, List.pairwise_append] at hpw
  refine lt_eq (stT_lt _ _ _) (List.pairwise_append.2 ⟨hpw.1, List.pairwise_cons.2 ⟨fun y hy => ?_, hpw.2.1⟩, fun y hy z hz => ?_⟩) fun y => ?_
  · have h1 := slot_drop h y hy
    have h2 : y ≠ x := fun e => hn (by rw [← e]; exact (hsp y).2 (.inr hy))
    omega
  · rcases List.mem_cons.1 hz with rfl | hz
    · exact slot_take h y hy
    · exact hpw.2.2 y hy z hz
  · rw [stT_mem, List.mem_append, List.mem_cons]
    constructor
    · rintro ⟨_, h2⟩
      by_cases hy : y = x
      · exact .inr (.inl hy)
      · rcases (hsp y).1 (by simpa [hy] using h2) with h | h
        · exact .inl h
        · exact .inr (.inr h)
    · intro h3
      have : y = x ∨ y ∈ l := by
        rcases h3 with h | h | h
        · exact .inr ((hsp y).2 (.inl h))
        · exact .inl h
        · exact .inr ((hsp y).2 (.inr h))
      rcases this with rfl | hy
      · exact ⟨⟨hx.1, by omega⟩, by simp [hn]⟩
      · have := h64 y hy
        have hne : y ≠ x := fun e => hn (by rw [← e]; exact hy)
        exact ⟨⟨this.1, by omega⟩, by simp [hy, hne]⟩
theorem step_del {l : List Int} {x : Int} {r : Nat} (hl : l.Pairwise (· < ·)) (h64 : ∀ y ∈ l, 0 ≤ y ∧ y < 64) (hr : r < l.length) (he : l[r]! = x) : stT l x 64 = l.take r ++ l.drop (r + 1) := by
  have hd : l.drop r = x :: l.drop (r + 1) := by
    rw [List.drop_eq_getElem_cons hr, ← he, getElem!_pos l r hr]
  have hsp : ∀ y, y ∈ l ↔ y ∈ l.take r ∨ y = x ∨ y ∈ l.drop (r + 1) := fun y => by rw [← List.mem_cons, ← hd, ← List.mem_append, List.take_append_drop]
  have hpw := hl
  rw [← List.take_append_drop r l, hd, List.pairwise_append, List.pairwise_cons] at hpw
  obtain ⟨p1, ⟨p2, p3⟩, p4⟩ := hpw
  refine lt_eq (stT_lt _ _ _) (List.pairwise_append.2 ⟨p1, p3, fun y hy z hz => p4 y hy z (List.mem_cons_of_mem _ hz)⟩) fun y => ?_
  rw [stT_mem, List.mem_append]
  constructor
  · rintro ⟨_, h2⟩
    by_cases hy : y = x
    · have hxl : x ∈ l := (hsp x).2 (.inr (.inl rfl))
      simp [hy, hxl] at h2
    · rcases (hsp y).1 (by simpa [hy] using h2) with h | h | h
      · exact .inl h
      · exact absurd h hy
      · exact .inr h
  · intro h3
    have hy : y ∈ l := (hsp y).2 (h3.imp id .inr)
    have hne : y ≠ x := fun e => by
      rcases h3 with h | h
      · have := p4 y h x (by simp); omega
      · have := p2 y h; omega
    have := h64 y hy
    exact ⟨⟨this.1, by omega⟩, by simp [hy, hne]⟩

end Go.Proofs.Ythaffebapmkppaa

namespace Go.Proofs.Ythaffebapmkppaa
open Go Go.Eng Go.Sort

set_option maxHeartbeats 4000000 in
set_option maxRecDepth 100000 in
set_option cbv.maxSteps 100000000 in
theorem cloneF_ok (b y n cp : Nat) (l : List Int) (w : World) (hn : l.length = n) (h0 : n ≠ 0) (hle : n ≤ 1000) (hA : ∀ j, j < n → w.cell? ⟨b, y + j, none⟩ = some (.int .u8 l[j]!)) :
    Calls Try.prog 36 #[.slice (some ⟨b, y, none⟩) n cp] w (FreshRet (bytL l) n 1 w) := by
  obtain ⟨cs, hcs⟩ : ∃ cs, cs = bytL l := ⟨_, rfl⟩
  have hlen : cs.length = n := by rw [hcs, bytL_len, hn]
  rw [← hcs]
  refine X.begin (rg := []) (N := []) (ss := [.slv (some ⟨b, y, none⟩) n cp]) Try.func36 rfl B36_ok rfl rfl Sat.std0 ?_
  refine X.addIm [(0, .val (.osl 0 0 n 1 (some cp)))] b y (cs := cs) (by omega) (fun j x hj => ?_) (fun N hN => ?_) ?_
  · rw [hcs] at hj
    have hjl : j < l.length := by have := (List.getElem?_eq_some_iff.1 hj).1; rwa [bytL_len] at this
    obtain rfl : x = .int .u8 (.v l[j]!) := by simpa [bytL, hjl] using hj.symm
    exact ⟨_, fun _ => rfl, by show elsewhere [] [] w b (y + j) = _; rw [els_old]; exact hA j (by omega)⟩
  · obtain rfl : N = [] := List.eq_nil_of_length_eq_zero hN
    refine ⟨rfl, fun x h => ?_, trivial⟩
    simpa [SV.den, Num.cap] using h
  refine X.go T36_ok 16 _ rfl Try.results36 ?_
  conv => arg 2; cbv
  apply X.opEq (T := T36) T36_ok
  · exact opE_append (te := ti5) (new := cs) (m := n) rfl rfl rfl rfl rfl rfl rfl rfl (appSrc_row (g := ⟨false, cs, none⟩) rfl rfl rfl (by show cs.length = n * 1; omega))
      (appV_new (te := ti5) rfl h0 (appOk_ok (by decide) rfl (by show cs.length = n * 1; omega) (by rw [hcs]; exact bytL_one) (by show (2 * (0 + n) + 256) * 1 ≤ _; omega) (by omega))) rfl
  refine X.go T36_ok 400 _ rfl Try.results36 ?_
  conv => arg 2; cbv
  refine X.done T36_ok rfl (fun N w' v hN hS hv => ?_)
  exact freshRet_of hS (r := 2) rfl (by rw [hlen]; omega) (List.prefix_refl _) (fun c hc N N' v h => bytL_den (by rw [← hcs]; exact hc) h) hv

end Go.Proofs.Ythaffebapmkppaa
