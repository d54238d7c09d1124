/- Configurations: rows joined (slices.Grow, slices.Concat). -/
import Derived.Test.YthaffebapmkppaaCf5

namespace Go.Proofs.Ythaffebapmkppaa
open Go Go.Eng Go.Sort

theorem vk_cap_nil {E : Env} {N0 : Nums} {rg : List Rg} {f : Fr} {g : GK} {x : Operand} {ts e : Nat} (hx : evK f g x = some (.raw (.slice none 0 0))) (hu : E.P.underlying ts = some (.slice e)) : ValOk E N0 rg f g (.call { callee := .builtin .cap, args := #[x], argTypes := #[ts] }) (.int .i64 (.lit 0)) := by
  intro ht N ρ op w hN0 hop hρ hV
  have h1 := hρ _ _ hx
  simp [SV.den, one?] at h1
  refine ⟨.int .i64 0, rfl, fun w' _ => ?_⟩
  have h2 : (Builtin.cap_ #[ts] op.type #[.slice none 0 0]).run E.P w' = .ok (.int .i64 0) w' := by simp [Builtin.cap_, run_underlying hu, Result.andThen, goInt]
  simp [execOp, hop, resolve, invoke, builtin, ← h1, h2]
theorem vk_slice_nil {E : Env} {N0 : Nums} {rg : List Rg} {f : Fr} {g : GK} {t e q : TypeId} {x hi : Operand} {kd : IntKind} {s : SI} (hx : evK f g x = some (.raw (.slice none 0 0))) (hhi : evK f g hi = some (.int kd s)) (hz : s.den = 0) (hu : E.P.underlying t = some (.slice e)) (hq : ∀ w, (sizeOf e).run E.P w = .ok q w) : ValOk E N0 rg f g (.slice t x none (some hi) none) (.raw (.slice none 0 0)) := by
  intro ht N ρ op w hN0 hop hρ hV
  have e1 := hρ _ _ hx
  have e2 := hρ _ _ hhi
  simp only [SV.den, one?, if_true, Option.some.injEq] at e1 e2
  refine ⟨.slice none 0 0, by simp [SV.den, one?], fun w' _ => ?_⟩
  have hb := run_sliceBounds (P := E.P) (w := w') (ρ' := ρ) (b := true) (len := 0) (cap := 0) (lo := none) (hi := some hi) (mx := none) (l := none) (h := some 0) (m := none) (.inl ⟨rfl, rfl⟩) (.inr ⟨kd, 0, by simp [← e2, hz], rfl⟩) (.inl ⟨rfl, rfl⟩)
    (by simp) (by simp) (by simp) (by simp)
  simp only [Option.map_none, Option.map_some, Option.getD_none, Option.getD_some] at hb
  simp [execOp, hop, ← e1, Instr.sliceAt, run_underlying hu, Result.andThen, Instr.slice, hb, hq]

/-- a row of one's own, handed back -/
theorem freshRet_of {P : Program} {fn : Func} {Q : Ending → World → Prop} {W : World} {im : Mem} {D : Nat → Nat → Prop} {Rr : World → Prop} {N0 : Nums} {B : SchT} {N : Nums} {rg : List Rg} {w' : World} {r n z : Nat} {cs cs' : List SV} {v : Value} (hS : Sat (mkE P fn Q W (InR [] []) im D Rr N0 B).toEnv N rg w') (hr : rg[r]? = some ⟨true, cs, none⟩) (h0 : 0 < cs.length) (hp : cs' <+: cs) (hc : ∀ c ∈ cs', ∀ (N N' : Nums) (v : Value), c.den N = some v → c.den N' = some v)
    (hv : (SV.osl r 0 n z none).den N = some v) : FreshRet cs' n z W (.returned v) w' := by
  obtain ⟨p, hpn⟩ : ∃ p, N[r]? = some p := ⟨_, List.getElem?_eq_getElem (by rw [hS.len]; exact (List.getElem?_eq_some_iff.1 hr).1)⟩
  simp only [SV.den, hpn, Num.cap, Nat.add_zero, Nat.sub_zero, Option.some.injEq] at hv
  have hx := hS.ext r _ p hr hpn rfl
  simp only at hx
  have hl := hp.length_le
  refine ⟨p.b, p.o, p.x, by rw [← hv], ?_, by omega, by omega, fun j c hj => ?_, fun j hj => hS.room r _ p hr hpn rfl j hj, hS.chg.none⟩
  · rcases hS.foot r _ p hr hpn rfl with h | h
    · exact h
    · exact absurd (h 0 (by omega)) (fun h => inR_nil h)
  · obtain ⟨t, rfl⟩ := hp
    have hjl := (List.getElem?_eq_some_iff.1 hj).1
    obtain ⟨v, h1, h2⟩ := hS.cell r _ p hr hpn j c (by rw [List.getElem?_append_left hjl]; exact hj)
    exact ⟨v, hc c (List.mem_of_getElem? hj) _ _ v h1, h2⟩

set_option maxHeartbeats 8000000 in
set_option maxRecDepth 100000 in
set_option cbv.maxSteps 100000000 in
theorem grow1_ok (w : World) : Calls Try.prog 69 #[.slice none 0 0, .int .i64 1] w (FreshRet [] 0 1 w) := by
  refine X.begin (rg := []) (N := []) (ss := [.raw (.slice none 0 0), .int .i64 (.lit 1)]) Try.func69 rfl B69_ok rfl rfl Sat.std0 ?_
  refine X.goP ([(10, .int .i64 (.lit 0)), (19, .int .i64 (.lit 0)), (20, .raw (.slice none 0 0))]) T69_ok 400 _ rfl Try.results69 (fun pr fin hpr hfin => ?_)
  conv => cbv
  refine ⟨hpr _ (vk_slice_nil rfl rfl rfl Try.underlying22 Try.sizeOf5), hpr _ (vk_cap_nil rfl Try.underlying22), hpr _ (vk_cap_nil rfl Try.underlying22), hfin _ _ ?_⟩
  refine X.done T69_ok rfl (fun N w' v hN hS hv => freshRet_of hS (r := 0) rfl (Nat.succ_pos _) (List.nil_prefix) (fun c hc => absurd hc List.not_mem_nil) hv)

set_option maxHeartbeats 8000000 in
set_option maxRecDepth 100000 in
set_option cbv.maxSteps 100000000 in
theorem grow2_ok (w : World) : Calls Try.prog 69 #[.slice none 0 0, .int .i64 2] w (FreshRet [] 0 1 w) := by
  refine X.begin (rg := []) (N := []) (ss := [.raw (.slice none 0 0), .int .i64 (.lit 2)]) Try.func69 rfl B69_ok rfl rfl Sat.std0 ?_
  refine X.goP ([(10, .int .i64 (.lit 0)), (19, .int .i64 (.lit 0)), (20, .raw (.slice none 0 0))]) T69_ok 400 _ rfl Try.results69 (fun pr fin hpr hfin => ?_)
  conv => cbv
  refine ⟨hpr _ (vk_slice_nil rfl rfl rfl Try.underlying22 Try.sizeOf5), hpr _ (vk_cap_nil rfl Try.underlying22), hpr _ (vk_cap_nil rfl Try.underlying22), hfin _ _ ?_⟩
  refine X.done T69_ok rfl (fun N w' v hN hS hv => freshRet_of hS (r := 0) rfl (Nat.succ_pos _) (List.nil_prefix) (fun c hc => absurd hc List.not_mem_nil) hv)

set_option maxHeartbeats 8000000 in
set_option maxRecDepth 100000 in
set_option cbv.maxSteps 100000000 in
theorem grow3_ok (w : World) : Calls Try.prog 69 #[.slice none 0 0, .int .i64 3] w (FreshRet [] 0 1 w) := by
  refine X.begin (rg := []) (N := []) (ss := [.raw (.slice none 0 0), .int .i64 (.lit 3)]) Try.func69 rfl B69_ok rfl rfl Sat.std0 ?_
  refine X.goP ([(10, .int .i64 (.lit 0)), (19, .int .i64 (.lit 0)), (20, .raw (.slice none 0 0))]) T69_ok 400 _ rfl Try.results69 (fun pr fin hpr hfin => ?_)
  conv => cbv
  refine ⟨hpr _ (vk_slice_nil rfl rfl rfl Try.underlying22 Try.sizeOf5), hpr _ (vk_cap_nil rfl Try.underlying22), hpr _ (vk_cap_nil rfl Try.underlying22), hfin _ _ ?_⟩
  refine X.done T69_ok rfl (fun N w' v hN hS hv => freshRet_of hS (r := 0) rfl (Nat.succ_pos _) (List.nil_prefix) (fun c hc => absurd hc List.not_mem_nil) hv)

set_option maxHeartbeats 8000000 in
set_option maxRecDepth 100000 in
set_option cbv.maxSteps 100000000 in
theorem grow4_ok (w : World) : Calls Try.prog 69 #[.slice none 0 0, .int .i64 4] w (FreshRet [] 0 1 w) := by
  refine X.begin (rg := []) (N := []) (ss := [.raw (.slice none 0 0), .int .i64 (.lit 4)]) Try.func69 rfl B69_ok rfl rfl Sat.std0 ?_
  refine X.goP ([(10, .int .i64 (.lit 0)), (19, .int .i64 (.lit 0)), (20, .raw (.slice none 0 0))]) T69_ok 400 _ rfl Try.results69 (fun pr fin hpr hfin => ?_)
  conv => cbv
  refine ⟨hpr _ (vk_slice_nil rfl rfl rfl Try.underlying22 Try.sizeOf5), hpr _ (vk_cap_nil rfl Try.underlying22), hpr _ (vk_cap_nil rfl Try.underlying22), hfin _ _ ?_⟩
  refine X.done T69_ok rfl (fun N w' v hN hS hv => freshRet_of hS (r := 0) rfl (Nat.succ_pos _) (List.nil_prefix) (fun c hc => absurd hc List.not_mem_nil) hv)

set_option maxHeartbeats 8000000 in
set_option maxRecDepth 100000 in
set_option cbv.maxSteps 100000000 in
theorem grow5_ok (w : World) : Calls Try.prog 69 #[.slice none 0 0, .int .i64 5] w (FreshRet [] 0 1 w) := by
  refine X.begin (rg := []) (N := []) (ss := [.raw (.slice none 0 0), .int .i64 (.lit 5)]) Try.func69 rfl B69_ok rfl rfl Sat.std0 ?_
  refine X.goP ([(10, .int .i64 (.lit 0)), (19, .int .i64 (.lit 0)), (20, .raw (.slice none 0 0))]) T69_ok 400 _ rfl Try.results69 (fun pr fin hpr hfin => ?_)
  conv => cbv
  refine ⟨hpr _ (vk_slice_nil rfl rfl rfl Try.underlying22 Try.sizeOf5), hpr _ (vk_cap_nil rfl Try.underlying22), hpr _ (vk_cap_nil rfl Try.underlying22), hfin _ _ ?_⟩
  refine X.done T69_ok rfl (fun N w' v hN hS hv => freshRet_of hS (r := 0) rfl (Nat.succ_pos _) (List.nil_prefix) (fun c hc => absurd hc List.not_mem_nil) hv)

set_option maxHeartbeats 8000000 in
set_option maxRecDepth 100000 in
set_option cbv.maxSteps 100000000 in
theorem grow6_ok (w : World) : Calls Try.prog 69 #[.slice none 0 0, .int .i64 6] w (FreshRet [] 0 1 w) := by
  refine X.begin (rg := []) (N := []) (ss := [.raw (.slice none 0 0), .int .i64 (.lit 6)]) Try.func69 rfl B69_ok rfl rfl Sat.std0 ?_
  refine X.goP ([(10, .int .i64 (.lit 0)), (19, .int .i64 (.lit 0)), (20, .raw (.slice none 0 0))]) T69_ok 400 _ rfl Try.results69 (fun pr fin hpr hfin => ?_)
  conv => cbv
  refine ⟨hpr _ (vk_slice_nil rfl rfl rfl Try.underlying22 Try.sizeOf5), hpr _ (vk_cap_nil rfl Try.underlying22), hpr _ (vk_cap_nil rfl Try.underlying22), hfin _ _ ?_⟩
  refine X.done T69_ok rfl (fun N w' v hN hS hv => freshRet_of hS (r := 0) rfl (Nat.succ_pos _) (List.nil_prefix) (fun c hc => absurd hc List.not_mem_nil) hv)

set_option maxHeartbeats 8000000 in
set_option maxRecDepth 100000 in
set_option cbv.maxSteps 100000000 in
theorem grow0_ok (w : World) : Calls Try.prog 69 #[.slice none 0 0, .int .i64 0] w fun e w' => e = .returned (.slice none 0 0) ∧ Chg (fun _ _ => False) w w' := by
  refine X.begin (rg := []) (N := []) (ss := [.raw (.slice none 0 0), .int .i64 (.lit 0)]) Try.func69 rfl B69_ok rfl rfl Sat.std0 ?_
  refine X.goP ([(10, .int .i64 (.lit 0)), (19, .int .i64 (.lit 0)), (20, .raw (.slice none 0 0))]) T69_ok 400 _ rfl Try.results69 (fun pr fin hpr hfin => ?_)
  conv => cbv
  refine ⟨hpr _ (vk_cap_nil rfl Try.underlying22), hfin _ _ ?_⟩
  refine X.done T69_ok rfl (fun N w' v hN hS hv => ?_)
  simp [resV, SV.den, one?] at hv
  exact ⟨by rw [← hv], hS.chg.none⟩

theorem grow_ok (k : Nat) (h0 : 0 < k) (h6 : k ≤ 6) (w : World) : Calls Try.prog 69 #[.slice none 0 0, .int .i64 k] w (FreshRet [] 0 1 w) := by
  match k, h0, h6 with
  | 1, _, _ => exact grow1_ok w
  | 2, _, _ => exact grow2_ok w
  | 3, _, _ => exact grow3_ok w
  | 4, _, _ => exact grow4_ok w
  | 5, _, _ => exact grow5_ok w
  | 6, _, _ => exact grow6_ok w

/-- what is known of memory that stays becomes a region that is only read -/
theorem Sat.addIm {E : Env} {N : Nums} {rg : List Rg} {w : World} (h : Sat E N rg w) {b y x : Nat} {cs : List SV} (h0 : 0 < cs.length) (hcs : ∀ (j : Nat) (c : SV), cs[j]? = some c → ∃ v, (∀ N, c.den N = some v) ∧ E.im b (y + j) = some v) : Sat E (N ++ [⟨b, y, x⟩]) (rg ++ [⟨false, cs, none⟩]) w := by
  have hle : N.le (N ++ [⟨b, y, x⟩]) := Nums.le_append _ _
  have hb : b < w.heap.size := by
    obtain ⟨v, _, h2⟩ := hcs 0 _ (List.getElem?_eq_getElem h0)
    exact World.block_lt_of_cell? _ _ (h.imm _ _ _ h2)
  refine ⟨by simp [h.len], ?_, ?_, ?_, ?_, ?_, ?_, ?_, h.imm, ?_, ?_, h.dlt, h.loc, h.res, h.chg, ?_⟩
  · intro i q hq
    rcases Nat.lt_or_ge i N.length with hi | hi
    · rw [List.getElem?_append_left hi] at hq; exact h.lt i q hq
    · rw [List.getElem?_append_right hi] at hq
      have hz : i - N.length = 0 := by
        have := (List.getElem?_eq_some_iff.1 hq).1
        simp at this; omega
      rw [hz] at hq; simp at hq; subst hq; exact hb
  · intro i g q hg hq j d hj
    rcases get_snoc h.len hg hq with ⟨a, b⟩ | ⟨_, rfl, rfl⟩
    · obtain ⟨v, h1, h2⟩ := h.cell i g q a b j d hj
      exact ⟨v, SV.den_mono hle d h1, h2⟩
    · obtain ⟨v, h1, h2⟩ := hcs j d hj
      exact ⟨v, h1 _, h.imm _ _ _ h2⟩
  · intro i g q hg hq ho
    rcases get_snoc h.len hg hq with ⟨a, b⟩ | ⟨_, rfl, rfl⟩
    · exact h.ext i g q a b ho
    · cases ho
  · intro i g q hg hq ho
    rcases get_snoc h.len hg hq with ⟨a, b⟩ | ⟨_, rfl, rfl⟩
    · exact h.room i g q a b ho
    · cases ho
  · intro i i' g g' q q' hg hq hg' hq' ho hne j hj hb'
    rcases get_snoc h.len hg hq with ⟨a1, a2⟩ | ⟨a0, rfl, rfl⟩
    · rcases get_snoc h.len hg' hq' with ⟨b1, b2⟩ | ⟨b0, rfl, rfl⟩
      · exact h.disj i i' g g' q q' a1 a2 b1 b2 ho hne j hj hb'
      · have hj : j < cs.length := hj
        obtain ⟨v, _, k2⟩ := hcs j _ (List.getElem?_eq_getElem hj)
        simp only at hb' ⊢
        rcases Nat.lt_or_ge (y + j) q.o with k | k
        · exact .inl k
        · rcases Nat.lt_or_ge (y + j) (q.o + q.x) with k3 | k3
          · have := h.imd i g q a1 a2 ho (y + j - q.o) (by omega)
            rw [show q.o + (y + j - q.o) = y + j by omega, ← hb', k2] at this
            cases this
          · exact .inr k3
    · cases ho
  · intro i g q ob hg hq ho
    rcases get_snoc h.len hg hq with ⟨a, b⟩ | ⟨_, rfl, rfl⟩
    · obtain ⟨⟨o', k1, k2⟩, k3⟩ := h.obj i g q ob a b ho
      exact ⟨⟨o', Ob.den_mono hle ob k1, k2⟩, k3⟩
    · simp at ho
  · intro i i' g g' q q' hg hq hg' hq' ho ho' hne
    rcases get_snoc h.len hg hq with ⟨a1, a2⟩ | ⟨a0, rfl, rfl⟩
    · rcases get_snoc h.len hg' hq' with ⟨b1, b2⟩ | ⟨b0, rfl, rfl⟩
      · exact h.odisj i i' g g' q q' a1 a2 b1 b2 ho ho' hne
      · simp at ho'
    · simp at ho
  · intro i g q hg hq ho
    rcases get_snoc h.len hg hq with ⟨a, b⟩ | ⟨_, rfl, rfl⟩
    · exact h.imd i g q a b ho
    · cases ho
  · intro i g q hg hq ho
    rcases get_snoc h.len hg hq with ⟨a, b⟩ | ⟨_, rfl, rfl⟩
    · exact h.dd i g q a b ho
    · cases ho
  · intro i g q hg hq ho
    rcases get_snoc h.len hg hq with ⟨a, b⟩ | ⟨_, rfl, rfl⟩
    · exact h.foot i g q a b ho
    · cases ho
theorem X.addIm {E : Ctx} {k : List It} {f : Fr} (f' : Fr) {rg : List Rg} (b y : Nat) {cs : List SV} (h0 : 0 < cs.length) (hc : ∀ (j : Nat) (c : SV), cs[j]? = some c → ∃ v, (∀ N, c.den N = some v) ∧ E.im b (y + j) = some v)
    (hs : ∀ N : Nums, N.length = rg.length → Sh N (N ++ [⟨b, y, cs.length⟩]) f f') (h : X E k ⟨f', rg ++ [⟨false, cs, none⟩]⟩) : X E k ⟨f, rg⟩ := by
  refine X.conv fun N a w hN hf hS => ?_
  exact ⟨E, ⟨f', rg ++ [⟨false, cs, none⟩]⟩, rfl, rfl, rfl, rfl, ⟨N ++ [⟨b, y, cs.length⟩], hN.trans (Nums.le_append _ _), hf.sh (hs N hS.len), Sat.addIm hS h0 hc⟩, h⟩

/-- the sum of the first rows' lengths -/
theorem flat_take {ls : List (List Int)} {i : Nat} (h : i < ls.length) : (ls.take (i + 1)).flatten = (ls.take i).flatten ++ ls[i]! := by
  rw [List.take_add_one, List.getElem?_eq_getElem h, getElem!_pos ls i h, List.flatten_append]
  simp

set_option maxHeartbeats 8000000 in
set_option maxRecDepth 100000 in
set_option cbv.maxSteps 100000000 in
theorem concat_ok (ls : List (List Int)) (b y m c : Nat) (w : World) (hm : m = ls.length) (hT : ls.flatten.length ≤ 6) (hm8 : m ≤ 1000)
    (hcell : ∀ j, j < m → ∃ p c, w.cell? ⟨b, y + j, none⟩ = some (.slice p ls[j]!.length c) ∧ BytNew ls[j]! 0 (wm w) p c) :
    Calls Try.prog 53 #[.slice (some ⟨b, y, none⟩) m c] w (BytRet ls.flatten w) := by
  obtain ⟨F, hF⟩ : ∃ F, F = ls.flatten := ⟨_, rfl⟩
  obtain ⟨T, hTT⟩ : ∃ T, T = F.length := ⟨_, rfl⟩
  have hT6 : T ≤ 6 := by rw [hTT, hF]; exact hT
  have hpre : ∀ i, (ls.take i).flatten.length ≤ T := fun i => by
    have : ls.flatten.length = (ls.take i).flatten.length + (ls.drop i).flatten.length := by rw [← List.length_append, ← List.flatten_append, List.take_append_drop]
    rw [hTT, hF]
    omega
  obtain ⟨Q, hQ⟩ : ∃ Q : Ending → World → Prop, Q = BytRet F w := ⟨_, rfl⟩
  obtain ⟨pz, hpr0⟩ : ∃ p, p = some (Addr.mk b y none) := ⟨_, rfl⟩
  rw [← hF, ← hQ, ← hpr0]
  refine X.begin (rg := []) (N := []) (ss := [.slv pz m c]) Try.func53 rfl B53_ok rfl rfl Sat.std0 ?_
  obtain ⟨im, him⟩ : ∃ im, im = elsewhere [] [] w := ⟨_, rfl⟩
  have hcell : ∀ j, j < m → ∃ p c, im b (y + j) = some (.slice p ls[j]!.length c) ∧ BytNew ls[j]! 0 im p c := fun j hj => by
    obtain ⟨p, c, h1, h2⟩ := hcell j hj
    exact ⟨p, c, by rw [him, els_old]; exact h1, h2.mono (Nat.le_refl _) fun k o v _ hv => by rw [him, els_old]; exact hv⟩
  show X (mkE Try.prog Try.f53 Q w (InR [] []) (elsewhere [] [] w) (fun _ _ => False) (fun _ => True) [] B53) _ _
  rw [← him]
  refine X.go T53_ok 400 _ rfl Try.results53 ?_
  conv => arg 2; cbv
  refine X.loop (fun _ : {i : Nat // i ≤ m} => mkE Try.prog Try.f53 Q w (InR [] []) im (fun _ _ => False) (fun _ => True) [] B53)
    (fun g => ⟨[(0, .val (.slv pz m c)), (3, .val (.int .i64 (.nat (ls.take g.1).flatten.length))), (9, .val (.slv pz m c)), (10, .val (.int .i64 (.nat m))), (11, .val (.int .i64 (.nat g.1)))], []⟩) (fun g => m - g.1) (fun _ => ⟨rfl, rfl, rfl, rfl⟩) (fun N ac w' hN hf hS => ⟨⟨0, Nat.zero_le _⟩, ?_⟩) (fun g q hq => ?_)
  · exact At.again hf hS (by repeat first | exact trivial | refine ⟨⟨_, rfl, .inl ⟨rfl, rfl⟩⟩, ?_⟩ | refine ⟨⟨_, rfl, .inr ⟨_, rfl, rfl⟩⟩, ?_⟩ | refine ⟨⟨_, rfl, .inr ⟨_, rfl, by simp (disch := omega) [SV.den, SI.den, wrapU, wrapD] <;> omega⟩⟩, ?_⟩) trivial
  obtain ⟨i, hi⟩ := g
  obtain ⟨t, ht⟩ : ∃ t, t = (ls.take i).flatten.length := ⟨_, rfl⟩
  have ht6 : t ≤ T := by rw [ht]; exact hpre i
  show X (mkE Try.prog Try.f53 Q w (InR [] []) im (fun _ _ => False) (fun _ => True) [] B53) _ ⟨[(0, .val (.slv pz m c)), (3, .val (.int .i64 (.nat (ls.take i).flatten.length))), (9, .val (.slv pz m c)), (10, .val (.int .i64 (.nat m))), (11, .val (.int .i64 (.nat i)))], []⟩
  rw [← ht]
  refine X.go T53_ok 400 _ rfl Try.results53 ?_
  conv => arg 2; cbv
  refine X.cond rfl (fun hlt => ?_) (fun hge => ?_)
  · simp only [SB.T, SI.den] at hlt
    have hlt : i < m := by omega
    obtain ⟨p1, c1, hc1, hb1⟩ := hcell i hlt
    have hft := flat_take (ls := ls) (i := i) (by omega)
    obtain ⟨l, hl⟩ : ∃ l, l = ls[i]! := ⟨_, rfl⟩
    rw [← hl] at hc1 hb1 hft
    obtain ⟨q1, hq1⟩ : ∃ q, q = l.length := ⟨_, rfl⟩
    obtain ⟨oi, hoi⟩ : ∃ o, o = y + i := ⟨_, rfl⟩
    obtain ⟨tq, htq⟩ : ∃ z, z = t + q1 := ⟨_, rfl⟩
    have htn : (ls.take (i + 1)).flatten.length = tq := by rw [hft, List.length_append, htq, ht, hq1]
    have htn6 : tq ≤ T := by rw [← htn]; exact hpre (i + 1)
    have hw : IntKind.i64.wrap ((t : Int) + (q1 : Int)) = (tq : Int) := by rw [wrapN _ (by omega) (by omega)]; omega
    refine X.goP ([(13, .ext b oi 0), (14, .slv p1 q1 c1)]) T53_ok 400 _ rfl Try.results53 (fun pr fin hpr hfin => ?_)
    conv => cbv
    refine ⟨hpr _ (ValOk.im1 rfl Try.isAgg22 (fun _ => rfl) fun _ => by rw [Nat.add_zero, hoi, hq1]; exact hc1), hpr _ (ValOk.at (z := i) rfl rfl (fun _ => rfl) Try.underlying64 Try.sizeOf22 (fun _ => hlt) hpr0 (by omega)), hfin _ _ ?_⟩
    refine X.reval 3 (.int .i64 (.nat tq)) rfl (fun N _ v hv => by rw [← hv]; simp only [SV.den, SI.den, hw]) ?_
    refine X.cond rfl (fun hT => ?_) (fun hF' => ?_)
    · simp only [SB.T, SI.den, hw] at hT
      omega
    · skip
      refine X.go T53_ok 400 _ rfl Try.results53 ?_
      conv => arg 2; cbv
      refine X.back (fun N ac w' hN hf hS => hq ⟨i + 1, hlt⟩ ac w' (by simp only; omega) ?_)
      show Eng.At (mkE Try.prog Try.f53 Q w (InR [] []) im (fun _ _ => False) (fun _ => True) [] B53) ⟨[(0, .val (.slv pz m c)), (3, .val (.int .i64 (.nat (ls.take (i + 1)).flatten.length))), (9, .val (.slv pz m c)), (10, .val (.int .i64 (.nat m))), (11, .val (.int .i64 (.nat (i + 1))))], []⟩ ac w'
      rw [htn]
      exact At.again hf hS (by repeat first | exact trivial | refine ⟨⟨_, rfl, .inl ⟨rfl, rfl⟩⟩, ?_⟩ | refine ⟨⟨_, rfl, .inr ⟨_, rfl, rfl⟩⟩, ?_⟩ | refine ⟨⟨_, rfl, .inr ⟨_, rfl, by simp (disch := omega) [SV.den, SI.den, wrapU, wrapD] <;> omega⟩⟩, ?_⟩) trivial
  · simp only [SB.F, SI.den] at hge
    have hall : ls.take i = ls := List.take_of_length_le (by omega)
    have htT : t = T := by rw [ht, hall, hTT, hF]
    clear hge hq
    rcases Nat.eq_zero_or_pos T with h0 | h0
    · have hF0 : F = [] := List.eq_nil_of_length_eq_zero (by omega)
      have hrow : ∀ j, j < m → im b (y + j) = some (.slice none 0 0) := fun j hj => by
        obtain ⟨p1, c1, hc1, hb1⟩ := hcell j hj
        have hl0 : ls[j]! = [] := by
          have h1 := flat_take (ls := ls) (i := j) (by omega)
          have h2 := hpre (j + 1)
          rw [h1, List.length_append] at h2
          exact List.eq_nil_of_length_eq_zero (by omega)
        rw [hl0] at hc1 hb1
        rcases hb1.2 with ⟨_, rfl, rfl⟩ | ⟨hne, _⟩
        · exact hc1
        · exact absurd rfl hne
      have ht0 : t = 0 := by omega
      refine X.goP ([(24, .raw (.slice none 0 0))]) T53_ok 400 _ rfl Try.results53 (fun pr fin hpr hfin => ?_)
      conv => cbv
      refine ⟨hpr _ (.of Try.call69 [.slice none 0 0, .int .i64 t] (.slice none 0 0) (fun _ => by simp [SV.denL, SV.den, one?, SI.den]) (fun _ => by simp [SV.den, one?]) fun _ w1 _ => by rw [ht0]; exact grow0_ok w1), hfin _ _ ?_⟩
      refine X.loop (fun _ : {i : Nat // i ≤ m} => mkE Try.prog Try.f53 Q w (InR [] []) im (fun _ _ => False) (fun _ => True) [] B53)
        (fun g => ⟨[(6, .val (.raw (.slice none 0 0))), (25, .val (.slv pz m c)), (26, .val (.int .i64 (.nat m))), (27, .val (.int .i64 (.nat g.1)))], []⟩) (fun g => m - g.1) (fun _ => ⟨rfl, rfl, rfl, rfl⟩) (fun N ac w' hN hf hS => ⟨⟨0, Nat.zero_le _⟩, ?_⟩) (fun g q hq => ?_)
      · exact At.again hf hS (by repeat first | exact trivial | refine ⟨⟨_, rfl, .inl ⟨rfl, rfl⟩⟩, ?_⟩ | refine ⟨⟨_, rfl, .inr ⟨_, rfl, rfl⟩⟩, ?_⟩ | refine ⟨⟨_, rfl, .inr ⟨_, rfl, by simp (disch := omega) [SV.den, SI.den, wrapU, wrapD] <;> omega⟩⟩, ?_⟩) trivial
      obtain ⟨i, hi⟩ := g
      show X (mkE Try.prog Try.f53 Q w (InR [] []) im (fun _ _ => False) (fun _ => True) [] B53) _ ⟨[(6, .val (.raw (.slice none 0 0))), (25, .val (.slv pz m c)), (26, .val (.int .i64 (.nat m))), (27, .val (.int .i64 (.nat i)))], []⟩
      refine X.go T53_ok 400 _ rfl Try.results53 ?_
      conv => arg 2; cbv
      refine X.cond rfl (fun hlt => ?_) (fun hge => ?_)
      · simp only [SB.T, SI.den] at hlt
        have hlt : i < m := by omega
        have hc1 := hrow i hlt
        obtain ⟨oi, hoi⟩ : ∃ o, o = y + i := ⟨_, rfl⟩
        refine X.goP ([(29, .ext b oi 0), (30, .raw (.slice none 0 0))]) T53_ok 400 _ rfl Try.results53 (fun pr fin hpr hfin => ?_)
        conv => cbv
        refine ⟨hpr _ (ValOk.im1 rfl Try.isAgg22 (fun _ => by simp [SV.den, one?]; rfl) fun _ => by rw [Nat.add_zero, hoi]; exact hc1), hpr _ (ValOk.at (z := i) rfl rfl (fun _ => rfl) Try.underlying64 Try.sizeOf22 (fun _ => hlt) hpr0 (by omega)), hfin _ _ ?_⟩
        refine X.back (fun N ac w' hN hf hS => hq ⟨i + 1, hlt⟩ ac w' (by simp only; omega) ?_)
        exact At.again hf hS (by repeat first | exact trivial | refine ⟨⟨_, rfl, .inl ⟨rfl, rfl⟩⟩, ?_⟩ | refine ⟨⟨_, rfl, .inr ⟨_, rfl, rfl⟩⟩, ?_⟩ | refine ⟨⟨_, rfl, .inr ⟨_, rfl, by simp (disch := omega) [SV.den, SI.den, wrapU, wrapD] <;> omega⟩⟩, ?_⟩) trivial
      · simp only [SB.F, SI.den] at hge
        refine X.go T53_ok 400 _ rfl Try.results53 ?_
        conv => arg 2; cbv
        refine X.done T53_ok rfl (fun N w' v hN hS hv => ?_)
        simp [resV, SV.den, one?] at hv
        rw [hQ, hF0]
        exact ⟨none, 0, by rw [← hv]; rfl, Nat.le_refl _, .inl ⟨rfl, rfl, rfl⟩, hS.chg.none⟩
    · skip
      refine X.go T53_ok 400 _ rfl Try.results53 ?_
      conv => arg 2; cbv
      refine X.call rfl rfl rfl rfl Try.call69 (fun N w1 args hN hS ha => ?_)
      have ha : args = [.slice none 0 0, .int .i64 T] := by
        obtain ⟨v, l1, rfl, hv, ha⟩ := denL_cons ha
        obtain ⟨v2, l2, rfl, hv2, ha⟩ := denL_cons ha
        obtain rfl := denL_nil ha
        simp [ofVal, SV.den, one?] at hv
        simp only [SV.den, SI.den, Option.some.injEq] at hv2
        rw [← hv, ← hv2, htT]
      rw [ha]
      refine (grow_ok T h0 hT6 w1).mono fun e w2 hr => Goes.fresh hN hS hr rfl ?_
      refine X.go T53_ok 400 _ rfl Try.results53 ?_
      conv => arg 2; cbv
      refine X.loop (fun _ : {i : Nat // i ≤ m} => mkE Try.prog Try.f53 Q w (InR [] []) im (fun _ _ => False) (fun _ => True) [] B53)
        (fun g => ⟨[(6, .val (.osl 0 0 (ls.take g.1).flatten.length 1 none)), (25, .val (.slv pz m c)), (26, .val (.int .i64 (.nat m))), (27, .val (.int .i64 (.nat g.1)))], [⟨true, bytL (ls.take g.1).flatten, none⟩]⟩) (fun g => m - g.1) (fun _ => ⟨rfl, rfl, rfl, rfl⟩) (fun N ac w' hN hf hS => ⟨⟨0, Nat.zero_le _⟩, ?_⟩) (fun g q hq => ?_)
      · exact At.again hf hS (by repeat first | exact trivial | refine ⟨⟨_, rfl, .inl ⟨rfl, rfl⟩⟩, ?_⟩ | refine ⟨⟨_, rfl, .inr ⟨_, rfl, rfl⟩⟩, ?_⟩ | refine ⟨⟨_, rfl, .inr ⟨_, rfl, by simp (disch := omega) [SV.den, SI.den, wrapU, wrapD] <;> omega⟩⟩, ?_⟩) ⟨fun h => h, trivial, rfl, trivial⟩
      obtain ⟨i, hi⟩ := g
      obtain ⟨A, hA⟩ : ∃ A, A = (ls.take i).flatten := ⟨_, rfl⟩
      obtain ⟨la, hla⟩ : ∃ m, m = A.length := ⟨_, rfl⟩
      have hla6 : la ≤ 6 := by have := hpre i; rw [← hA, ← hla] at this; omega
      obtain ⟨ca, hca⟩ : ∃ v, v = bytL A := ⟨_, rfl⟩
      have hcab : ∀ m, ca.all (bd m) = true := fun m => by rw [hca]; exact bytL_bd
      have hcal : ca.length = la := by rw [hca, bytL_len, hla]
      show X (mkE Try.prog Try.f53 Q w (InR [] []) im (fun _ _ => False) (fun _ => True) [] B53) _ ⟨[(6, .val (.osl 0 0 (ls.take i).flatten.length 1 none)), (25, .val (.slv pz m c)), (26, .val (.int .i64 (.nat m))), (27, .val (.int .i64 (.nat i)))], [⟨true, bytL (ls.take i).flatten, none⟩]⟩
      rw [← hA, ← hla, ← hca]
      refine X.go T53_ok 400 _ rfl Try.results53 ?_
      conv => arg 2; cbv
      refine X.cond rfl (fun hlt => ?_) (fun hge => ?_)
      · simp only [SB.T, SI.den] at hlt
        have hlt : i < m := by omega
        obtain ⟨p1, c1, hc1, hb1⟩ := hcell i hlt
        have hft := flat_take (ls := ls) (i := i) (by omega)
        obtain ⟨l, hl⟩ : ∃ l, l = ls[i]! := ⟨_, rfl⟩
        rw [← hl] at hc1 hb1 hft
        rw [← hA] at hft
        obtain ⟨q1, hq1⟩ : ∃ q, q = l.length := ⟨_, rfl⟩
        rw [← hq1] at hc1
        obtain ⟨oi, hoi⟩ : ∃ o, o = y + i := ⟨_, rfl⟩
        have hq16 : la + q1 ≤ 6 := by have := hpre (i + 1); rw [hft, List.length_append, ← hla, ← hq1] at this; omega
        rcases hb1.2 with ⟨hl0, rfl, rfl⟩ | ⟨hne, b2, y2, hp1, _, hli⟩
        · have hq0 : q1 = 0 := by rw [hq1, hl0]; rfl
          rw [hq0] at hc1
          rw [hl0, List.append_nil] at hft
          refine X.goP ([(29, .ext b oi 0), (30, .raw (.slice none 0 0))]) T53_ok 12 _ rfl Try.results53 (fun pr fin hpr hfin => ?_)
          conv => cbv
          refine ⟨hpr _ (ValOk.im1 rfl Try.isAgg22 (fun _ => by simp [SV.den, one?]; rfl) fun _ => by rw [Nat.add_zero, hoi]; exact hc1), hpr _ (ValOk.at (z := i) rfl rfl (fun _ => rfl) Try.underlying64 Try.sizeOf22 (fun _ => hlt) hpr0 (by omega)), hfin _ _ ?_⟩
          refine X.opEq (T := T53) T53_ok (opE_append (te := ti5) (new := []) (m := 0) rfl rfl rfl rfl rfl rfl rfl rfl rfl (appV_none (te := ti5) (n := la) (cs := ca) rfl (by show ca.length = la * 1; omega) (appOk_ok (by decide) rfl rfl rfl (by show (2 * (la + 0) + 256) * 1 ≤ _; omega) (by omega))) rfl) ?_
          refine X.go T53_ok 400 _ rfl Try.results53 ?_
          conv => arg 2; cbv
          refine X.back (fun N ac w' hN hf hS => hq ⟨i + 1, hlt⟩ ac w' (by simp only; omega) ?_)
          show Eng.At (mkE Try.prog Try.f53 Q w (InR [] []) im (fun _ _ => False) (fun _ => True) [] B53) ⟨[(6, .val (.osl 0 0 (ls.take (i + 1)).flatten.length 1 none)), (25, .val (.slv pz m c)), (26, .val (.int .i64 (.nat m))), (27, .val (.int .i64 (.nat (i + 1))))], [⟨true, bytL (ls.take (i + 1)).flatten, none⟩]⟩ ac w'
          rw [hft, ← hla, ← hca]
          exact At.again hf hS (by repeat first | exact trivial | refine ⟨⟨_, rfl, .inl ⟨rfl, rfl⟩⟩, ?_⟩ | refine ⟨⟨_, rfl, .inr ⟨_, rfl, rfl⟩⟩, ?_⟩ | refine ⟨⟨_, rfl, .inr ⟨_, rfl, by simp (disch := omega) [SV.den, SI.den, wrapU, wrapD] <;> omega⟩⟩, ?_⟩) ⟨fun h => h, SubC.refl (hcab _), rfl, trivial⟩
        · skip
          refine X.goP ([(29, .ext b oi 0), (30, .slv p1 q1 c1)]) T53_ok 12 _ rfl Try.results53 (fun pr fin hpr hfin => ?_)
          conv => cbv
          refine ⟨hpr _ (ValOk.im1 rfl Try.isAgg22 (fun _ => rfl) fun _ => by rw [Nat.add_zero, hoi]; exact hc1), hpr _ (ValOk.at (z := i) rfl rfl (fun _ => rfl) Try.underlying64 Try.sizeOf22 (fun _ => hlt) hpr0 (by omega)), hfin _ _ ?_⟩
          obtain ⟨cl, hcl⟩ : ∃ c, c = bytL l := ⟨_, rfl⟩
          have hcll : cl.length = q1 := by rw [hcl, bytL_len, hq1]
          have hq10 : 0 < q1 := by rw [hq1]; exact List.length_pos_iff.2 hne
          refine X.less [25, 26, 27, 31, 32] ?_
          show X (mkE Try.prog Try.f53 Q w (InR [] []) im (fun _ _ => False) (fun _ => True) [] B53) _ ⟨[(32, .val (.slv p1 q1 c1)), (31, .val (.osl 0 0 la 1 none)), (25, .val (.slv pz m c)), (26, .val (.int .i64 (.nat m))), (27, .val (.int .i64 (.nat i)))], [⟨true, ca, none⟩]⟩
          refine X.addIm [(32, .val (.osl 1 0 q1 1 (some c1))), (31, .val (.osl 0 0 la 1 none)), (25, .val (.slv pz m c)), (26, .val (.int .i64 (.nat m))), (27, .val (.int .i64 (.nat i)))] b2 y2 (cs := cl) (by omega) (fun j x hj => ?_) (fun N hN => ?_) ?_
          · rw [hcl] at hj
            have hjl : j < l.length := by have := (List.getElem?_eq_some_iff.1 hj).1; rwa [bytL_len] at this
            obtain rfl : x = .int .u8 (.v l[j]!) := by
              have : (bytL l)[j]? = some (.int .u8 (.v l[j]!)) := by simp [bytL, hjl]
              rw [this] at hj
              exact (Option.some.inj hj).symm
            exact ⟨_, fun _ => rfl, hli j hjl⟩
          · obtain ⟨n0, rfl⟩ : ∃ n0, N = [n0] := by
              match N, hN with
              | [a], _ => exact ⟨a, rfl⟩
            refine ⟨rfl, fun x h => ?_, rfl, fun _ h => h, rfl, fun _ h => h, rfl, fun _ h => h, rfl, fun _ h => h, trivial⟩
            rw [hp1] at h
            simpa [SV.den, Num.cap] using h
          refine X.appG (T := T53) (te := ti5) (r := 0) (n := la) (m := q1) (cs := ca) (new := cl) T53_ok rfl [25, 26, 27, 33] rfl rfl rfl rfl rfl rfl rfl rfl (.inr (.inr rfl)) rfl (by show ca.length = la * 1; omega) (by omega) (appSrc_row (g := ⟨false, cl, none⟩) rfl rfl rfl (by show cl.length = q1 * 1; omega)) (appOk_ok (by decide) rfl (by show cl.length = q1 * 1; omega) (by rw [hcl]; exact bytL_one) (by show (2 * (la + q1) + 256) * 1 ≤ _; omega) (by omega)) rfl rfl rfl (by repeat first | exact trivial | refine ⟨rfl, ?_⟩ | refine ⟨by assumption, ?_⟩) ⟨.inl rfl, .inr (by rw [hcl]; exact bytL_frr), trivial⟩ (by rw [List.all_append, hca, hcl, bytL_frr, bytL_frr]; rfl) rfl ?_
          obtain ⟨c3, hc3⟩ : ∃ c, c = ca ++ cl := ⟨_, rfl⟩
          have hc3b : c3 = bytL (A ++ l) := by rw [hc3, hca, hcl]; simp [bytL]
          have hc3d : ∀ m, c3.all (bd m) = true := fun m => by rw [hc3b]; exact bytL_bd
          obtain ⟨lq, hlq⟩ : ∃ z, z = la + q1 := ⟨_, rfl⟩
          show X (mkE Try.prog Try.f53 Q w (InR [] []) im (fun _ _ => False) (fun _ => True) [] B53) _ ⟨[(33, .val (.osl 0 0 (la + q1) 1 none)), (25, .val (.slv pz m c)), (26, .val (.int .i64 (.nat m))), (27, .val (.int .i64 (.nat i)))], [⟨true, ca ++ cl, none⟩, ⟨false, cl, none⟩]⟩
          rw [← hc3, ← hlq]
          refine X.go T53_ok 400 _ rfl Try.results53 ?_
          conv => arg 2; cbv
          refine X.back (fun N ac w' hN hf hS => hq ⟨i + 1, hlt⟩ ac w' (by simp only; omega) ?_)
          show Eng.At (mkE Try.prog Try.f53 Q w (InR [] []) im (fun _ _ => False) (fun _ => True) [] B53) ⟨[(6, .val (.osl 0 0 (ls.take (i + 1)).flatten.length 1 none)), (25, .val (.slv pz m c)), (26, .val (.int .i64 (.nat m))), (27, .val (.int .i64 (.nat (i + 1))))], [⟨true, bytL (ls.take (i + 1)).flatten, none⟩]⟩ ac w'
          rw [hft, ← hc3b, List.length_append, ← hla, ← hq1, ← hlq]
          exact At.again hf hS (by repeat first | exact trivial | refine ⟨⟨_, rfl, .inl ⟨rfl, rfl⟩⟩, ?_⟩ | refine ⟨⟨_, rfl, .inr ⟨_, rfl, rfl⟩⟩, ?_⟩ | refine ⟨⟨_, rfl, .inr ⟨_, rfl, by simp (disch := omega) [SV.den, SI.den, wrapU, wrapD] <;> omega⟩⟩, ?_⟩) ⟨fun h => h, SubC.refl (hc3d _), rfl, trivial⟩
      · simp only [SB.F, SI.den] at hge
        have hall : ls.take i = ls := List.take_of_length_le (by omega)
        have hAF : A = F := by rw [hA, hall, hF]
        refine X.go T53_ok 400 _ rfl Try.results53 ?_
        conv => arg 2; cbv
        refine X.done T53_ok rfl (fun N w' v hN hS hv => ?_)
        obtain ⟨p4, hp4⟩ := num_of hS (r := 0) rfl
        have hext := hS.ext 0 _ p4 rfl hp4 rfl
        simp only [hcal] at hext
        simp only [resV, SV.den, hp4, Num.cap, Option.some.injEq] at hv
        have hFl : F.length = la := by rw [← hAF, hla]
        rw [hQ]
        refine ⟨some ⟨p4.b, p4.o, none⟩, _, by rw [← hv, hFl, Nat.add_zero], by rw [hFl]; simpa using hext, .inr ⟨fun h => by rw [h] at hTT; simp at hTT; omega, p4.b, p4.o, rfl, ?_, fun j hj => ?_⟩, hS.chg.none⟩
        · rcases hS.foot 0 _ p4 rfl hp4 rfl with h | h
          · exact h
          · exact absurd (h 0 (by omega)) (fun h => inR_nil h)
        · rw [← hAF] at hj ⊢
          have hj : j < A.length := by simpa using hj
          obtain ⟨v0, h1, h2⟩ := hS.cell 0 _ p4 rfl hp4 j (.int .u8 (.v A[j]!)) (by show ca[j]? = _; rw [hca]; simp [bytL, hj])
          simp only [SV.den, SI.den, Option.some.injEq] at h1
          subst h1
          exact ⟨by simpa using h2, (hS.room 0 _ p4 rfl hp4 rfl j (by omega)).2⟩

end Go.Proofs.Ythaffebapmkppaa
