/- RingBuilds. -/
import Derived.Test.YthaffebapmkppaaRb4

namespace Go.Proofs.Ythaffebapmkppaa
open Go Go.Eng Go.Sort

/-- a row that was made since, only read; of no cells: wherever -/
theorem Sat.addRoW {E : Env} {N : Nums} {rg : List Rg} {w : World} (h : Sat E N rg w) {b o x s0 : Nat} {cs : List SV} (hN : ∀ (r : Nat) (p : Num), N[r]? = some p → p.b < s0) (hs0 : 0 < cs.length → s0 ≤ b) (hb : b < w.heap.size)
    (hcs : ∀ (j : Nat) (c : SV), cs[j]? = some c → ∃ v, c.den N = some v ∧ w.cell? ⟨b, o + j, none⟩ = some v) : Sat E (N ++ [⟨b, o, x⟩]) (rg ++ [⟨false, cs, none⟩]) w := by
  rcases Nat.eq_zero_or_pos cs.length with h0 | h0
  · obtain rfl : cs = [] := List.eq_nil_of_length_eq_zero h0
    have hle : N.le (N ++ [⟨b, o, x⟩]) := Nums.le_append _ _
    refine ⟨by simp [h.len], ?_, ?_, ?_, ?_, ?_, ?_, ?_, h.imm, ?_, ?_, h.dlt, h.loc, h.res, h.chg, ?_⟩
    · intro i q hq
      rcases Nat.lt_or_ge i N.length with hi | hi
      · rw [List.getElem?_append_left hi] at hq; exact h.lt i q hq
      · rw [List.getElem?_append_right hi] at hq
        have hz : i - N.length = 0 := by
          have := (List.getElem?_eq_some_iff.1 hq).1
          simp at this; omega
        rw [hz] at hq; simp at hq; subst hq; exact hb
    · intro i g q hg hq j d hj
      rcases get_snoc h.len hg hq with ⟨a, b⟩ | ⟨_, rfl, rfl⟩
      · obtain ⟨v, h1, h2⟩ := h.cell i g q a b j d hj
        exact ⟨v, SV.den_mono hle d h1, h2⟩
      · simp at hj
    · intro i g q hg hq ho
      rcases get_snoc h.len hg hq with ⟨a, b⟩ | ⟨_, rfl, rfl⟩
      · exact h.ext i g q a b ho
      · cases ho
    · intro i g q hg hq ho
      rcases get_snoc h.len hg hq with ⟨a, b⟩ | ⟨_, rfl, rfl⟩
      · exact h.room i g q a b ho
      · cases ho
    · intro i i' g g' q q' hg hq hg' hq' ho hne j hj hb'
      rcases get_snoc h.len hg hq with ⟨a1, a2⟩ | ⟨a0, rfl, rfl⟩
      · rcases get_snoc h.len hg' hq' with ⟨b1, b2⟩ | ⟨b0, rfl, rfl⟩
        · exact h.disj i i' g g' q q' a1 a2 b1 b2 ho hne j hj hb'
        · exact absurd hj (Nat.not_lt_zero j)
      · cases ho
    · intro i g q ob hg hq ho
      rcases get_snoc h.len hg hq with ⟨a, b⟩ | ⟨_, rfl, rfl⟩
      · obtain ⟨⟨o', k1, k2⟩, k3⟩ := h.obj i g q ob a b ho
        exact ⟨⟨o', Ob.den_mono hle ob k1, k2⟩, k3⟩
      · simp at ho
    · intro i i' g g' q q' hg hq hg' hq' ho ho' hne
      rcases get_snoc h.len hg hq with ⟨a1, a2⟩ | ⟨a0, rfl, rfl⟩
      · rcases get_snoc h.len hg' hq' with ⟨b1, b2⟩ | ⟨b0, rfl, rfl⟩
        · exact h.odisj i i' g g' q q' a1 a2 b1 b2 ho ho' hne
        · simp at ho'
      · simp at ho
    · intro i g q hg hq ho
      rcases get_snoc h.len hg hq with ⟨a, b⟩ | ⟨_, rfl, rfl⟩
      · exact h.imd i g q a b ho
      · cases ho
    · intro i g q hg hq ho
      rcases get_snoc h.len hg hq with ⟨a, b⟩ | ⟨_, rfl, rfl⟩
      · exact h.dd i g q a b ho
      · cases ho
    · intro i g q hg hq ho
      rcases get_snoc h.len hg hq with ⟨a, b⟩ | ⟨_, rfl, rfl⟩
      · exact h.foot i g q a b ho
      · cases ho
  · exact Sat.addRo h hN (hs0 h0) hb hcs

theorem RoR.sat {E : Env} {N : Nums} {rg : List Rg} {w w' : World} {cs : List SV} {n sz : Nat} {e : Ending} (hz : 0 < sz) (hf : RoR cs n w e w') (h : Sat E N rg w) :
    ∃ N' v, e = .returned v ∧ N.le N' ∧ (SV.osl rg.length 0 n sz none).den N' = some v ∧ Sat E N' (rg ++ [⟨false, cs, none⟩]) w' := by
  obtain ⟨b, o, c, he, h1, h2, h3, hc⟩ := hf
  have hget : (N ++ [⟨b, o, sz * c⟩] : Nums)[rg.length]? = some ⟨b, o, sz * c⟩ := by rw [← h.len]; simp
  refine ⟨N ++ [⟨b, o, sz * c⟩], _, he, Nums.le_append _ _, by simp only [SV.den, hget, Num.cap, Nat.add_zero, Nat.sub_zero, Nat.mul_div_cancel_left _ hz], ?_⟩
  exact Sat.addRoW (h.after0 hc) (s0 := w.heap.size) (fun r p hp => h.lt r p hp) h1 h2 (fun j c hj => by
    obtain ⟨v, k1, k2⟩ := h3 j c hj
    exact ⟨v, k1 N, k2⟩)
theorem BytRet.gsat {E : Env} {N : Nums} {rg : List Rg} {w w' : World} {l : List Int} {e : Ending} (hf : BytRet l w e w') (h : Sat E N rg w) (hne : 0 < rg.length) :
    ∃ N' v, e = .returned v ∧ N.le N' ∧ (gV rg.length l.length 1).den N' = some v ∧ Sat E N' (rg ++ [⟨false, bytL l, none⟩]) w' := by
  by_cases hl : l = []
  · subst hl
    obtain ⟨p, c, he, _, hr, hc⟩ := hf
    rcases hr with ⟨_, rfl, rfl⟩ | ⟨hr, _⟩
    · obtain ⟨p0, hp0⟩ : ∃ p, N[0]? = some p := ⟨_, List.getElem?_eq_getElem (by rw [h.len]; exact hne)⟩
      have h' := h.after0 hc
      exact ⟨N ++ [⟨p0.b, 0, 0⟩], _, he, Nums.le_append _ _, by simp [gV, SV.den, one?], Sat.addRoW h' (s0 := w'.heap.size) (fun r p hp => h'.lt r p hp) (fun h => absurd h (by simp [bytL])) (h'.lt 0 p0 hp0) (fun j c hj => by simp [bytL] at hj)⟩
    · exact absurd rfl hr
  · have hr := hf.ro hl
    obtain ⟨N', v, h1, h2, h3, h4⟩ := hr.sat (sz := 1) (by decide) h
    refine ⟨N', v, h1, h2, ?_, h4⟩
    have hb : Nat.beq l.length 0 = false := by
      cases l with
      | nil => exact absurd rfl hl
      | cons => rfl
    simpa only [gV, hb, cond_false] using h3

theorem goodR_strG {P : Program} {n : Nat} {ops : Array Oper} {N0 : Nums} {j d x src e dst r m : Nat} {l : List Int} {u : ByteArray} {ow : Bool} {sx : SV} (hop : ∀ o, nth ops.toList j = some o → o.op = .convert src dst (.tmp x)) (hs : P.underlying src = some (.slice e)) (he : P.underlying e = some (.int .u8)) (hd : P.underlying dst = some .string)
    (cs : List SV) (hcs : cs = bytL l) (hm : l.length = m) (hu : u = strOfNums l) (hsx : sx = gV r m 1) : ValR.good P n ops N0 ⟨j, d, .raw (.string u), fun rg f => ev f (.tmp x) = some sx ∧ nth rg r = some ⟨ow, cs, none⟩⟩ := by
  intro rg f ⟨hx, hr⟩ N a o w hN ho hfr hV
  refine ⟨_, rfl, fun w' hV' => ?_⟩
  have h1 := ev_sound hfr hx
  rw [nth_eq] at hr
  obtain ⟨p, hp⟩ : ∃ p, N[r]? = some p := ⟨_, List.getElem?_eq_getElem (by have := (List.getElem?_eq_some_iff.1 hr).1; have := hV.len; omega)⟩
  rw [hsx] at h1
  obtain ⟨q, c, e1, e2, e3⟩ := gV_den hp h1
  subst hu
  by_cases h0 : m = 0
  · obtain ⟨rfl, rfl⟩ := e3 h0
    subst h0
    obtain rfl : l = [] := List.eq_nil_of_length_eq_zero hm
    have := run_convert_bytes_nil w' src e hs he 0 0 dst hd
    simp only [execOp, hop o ho, e1, this, Sem.run_bind, Result.andThen, Sem.run_pure]
    rfl
  · have e2 := e2 (by omega)
    subst e2
    have := run_convert_bytes_arg (P := P) (w := w') src e hs he p.b (p.o + 0) m c l hm (fun j hj => by
      obtain ⟨v, k1, k2⟩ := hV'.cell r _ p hr hp j (.int .u8 (.v l[j]!)) (by rw [hcs]; simp [bytL, hm, hj])
      simp only [SV.den, SI.den, Option.some.injEq] at k1
      rw [Nat.add_zero, k2, ← k1]
      simp [hm, hj]) dst hd
    simp only [execOp, hop o ho, e1, this, Sem.run_bind, Result.andThen, Sem.run_pure]

theorem run_equalIn_bool {P : Program} {w : World} {t : Nat} (d : Nat) (h : P.underlying t = some .bool) (u : Bool) : (Op.equalIn (d + 1) t (.bool u) (.bool u)).run P w = .ok true w := by
  simp only [Op.equalIn, Sem.run_bind, run_underlying h, Result.andThen]
  simp

theorem goodR_eqb {P : Program} {n : Nat} {ops : Array Oper} {N0 : Nums} {j d x y t : Nat} {u : Bool} (hop : ∀ o, nth ops.toList j = some o → o.op = .binOp .eql t (.tmp x) (.tmp y) t) (hu : P.underlying t = some .bool) :
    ValR.good P n ops N0 ⟨j, d, .bool (.lit true), fun _ f => ev f (.tmp x) = some (.bool (.v u)) ∧ ev f (.tmp y) = some (.bool (.v u))⟩ := by
  intro rg f ⟨hx, hy⟩ N a o w hN ho hfr hV
  refine ⟨_, rfl, fun w' _ => ?_⟩
  have h1 := ev_sound hfr hx
  have h2 := ev_sound hfr hy
  simp only [SV.den, SB.den, Option.some.injEq] at h1 h2
  have hb' : ∀ w', (binOp .eql t (.bool u) (.bool u)).run P w' = .ok (.bool true) w' := fun w' => by
    have e2 : (Op.equal t (.bool u) (.bool u)).run P w' = .ok true w' := run_equalIn_bool 9999 hu u
    simp [binOp, e2, Result.andThen]
  simp [execOp, hop o ho, ← h1, ← h2, Result.andThen, eqGuard_none, hb', SB.den]

theorem Goes.ro {E : Ctx} {N : Nums} {k : List It} {s : St} {d : Option Nat} {e : Ending} {w w' : World} {cs : List SV} {n sz : Nat} (hN : E.N0.le N) (h : Sat E.toEnv N s.rg w) (hz : 0 < sz) (hf : RoR cs n w e w') {f' : Fr} (hp : putO E.n s.fr d (.val (.osl s.rg.length 0 n sz none)) = some f')
    (hx : X E k ⟨f', s.rg ++ [⟨false, cs, none⟩]⟩) : ∃ v, e = .returned v ∧ Goes E N k s.fr d v w' := by
  obtain ⟨N', v, h1, h2, h3, h4⟩ := hf.sat hz h
  exact ⟨v, h1, E, N', _, _, f', rfl, rfl, rfl, rfl, h2, hN.trans h2, h4, h3, hp, hx⟩

set_option maxHeartbeats 8000000 in
set_option maxRecDepth 100000 in
set_option cbv.maxSteps 100000000 in
theorem builds_tail (po p1 : Option Addr) (n cp m c1 b1 o1 : Nat) (d : Array Int) (L : List (Int × Int)) (key many : Int) (w : World) (im : Mem) (Q : Ending → World → Prop) (hQ : Q = fun e w' => e = .returned (.bool true) ∧ Chg (fun _ _ => False) w w') (h80 : n ≤ 80) (hn : d.size = n)
    (hInM : ∀ w' : World, (∀ k o v, im k o = some v → w'.cell? ⟨k, o, none⟩ = some v) → InB po n d w') (hd : ∀ x ∈ d.toList, 0 ≤ x ∧ x < 256) (hL : L = ringP d) (hm : m = L.length)
    (hp1 : 0 < m → p1 = some ⟨b1, o1, none⟩) (hpi : ∀ w' : World, (∀ k o v, im k o = some v → w'.cell? ⟨k, o, none⟩ = some v) → PtIn b1 o1 L w') (cs : List SV) (hcs : cs = ptsL L) :
    X (mkE Try.prog Try.f6 Q w (InR [] []) im (fun _ _ => False) (fun _ => True) [] B6) [It.code (sndC (sndC (sndC (Try.f6.body.getD .skip))))] ⟨[(8, .val (.osl 0 0 m 2 none)), (7, .val (.slv p1 m c1)), (0, .val (.slv po n cp)), (1, .val (.int .u8 (.v key))), (2, .val (.int .i64 (.v many)))], [⟨false, cs, none⟩]⟩ := by
  refine X.go T6_ok 1 _ rfl Try.results6 ?_
  conv => arg 2; cbv
  have hm8 : m ≤ 8000 := by rw [hm, hL]; have := ringP_len d; omega
  obtain ⟨K, hK⟩ : ∃ K, K = keepL L key many := ⟨_, rfl⟩
  obtain ⟨q, hq⟩ : ∃ q, q = K.length := ⟨_, rfl⟩
  obtain ⟨F, hF⟩ : ∃ F, F = ofL d key := ⟨_, rfl⟩
  obtain ⟨qf, hqf⟩ : ∃ q, q = F.length := ⟨_, rfl⟩
  obtain ⟨ck, hck⟩ : ∃ c, c = bytL K := ⟨_, rfl⟩
  obtain ⟨cf, hcf⟩ : ∃ c, c = bytL F := ⟨_, rfl⟩
  obtain ⟨vk, hvk⟩ : ∃ v, v = gV 1 q 1 := ⟨_, rfl⟩
  obtain ⟨vf, hvf⟩ : ∃ v, v = gV 3 qf 1 := ⟨_, rfl⟩
  obtain ⟨sk, hsk⟩ : ∃ s, s = strOfNums K := ⟨_, rfl⟩
  obtain ⟨sf, hsf⟩ : ∃ s, s = strOfNums F := ⟨_, rfl⟩
  obtain ⟨mb, hmb⟩ : ∃ b, b = B (mayP d n) := ⟨_, rfl⟩
  refine X.drawnD (fn := Try.f6) T6_ok
    (orC (callAny 2 15 54 _ (fun _ => .bool (.lit true)) [] (fun s x => x = [.slv p1 m c1, .osl 0 0 m 2 none] ∧ s.rg[0]? = some ⟨false, cs, none⟩))
    (orC (callAny 7 14 54 _ (fun _ => vk) [⟨false, ck, none⟩] (fun s x => x = [.slv p1 m c1, .int .u8 (.v key), .int .i64 (.v many)] ∧ s.rg.length = 1))
    (orC (callAny 12 17 54 _ (fun r => .osl r 0 q 1 none) [⟨false, ck, none⟩] (fun s x => x = [.osl 0 0 m 2 none, .int .u8 (.v key), .int .i64 (.v many)] ∧ s.rg[0]? = some ⟨false, cs, none⟩))
    (orC (callAny 19 12 54 _ (fun _ => vf) [⟨false, cf, none⟩] (fun s x => x = [.slv po n cp, .int .u8 (.v key)] ∧ s.rg.length = 3))
    (orC (callAny 23 18 54 _ (fun r => .osl r 0 qf 1 none) [⟨false, cf, none⟩] (fun s x => x = [.slv po n cp, .int .u8 (.v key)]))
    (orC (callAny 29 19 54 _ (fun _ => .bool (.v mb)) [] (fun s x => x = [.slv po n cp]))
    (orC (callAny 31 20 54 _ (fun _ => .bool (.v mb)) [] (fun s x => x = [.slv po n cp]))
    (callAny 35 11 54 _ (fun _ => .bool (.lit true)) [] (fun _ x => x = [])))))))))
    (valR 54 _ [⟨8, 25, .raw (.string sk), fun rg f => ev f (.tmp 24) = some vk ∧ nth rg 1 = some ⟨false, ck, none⟩⟩,
      ⟨13, 30, .raw (.string sk), fun rg f => ev f (.tmp 29) = some (.osl 2 0 q 1 none) ∧ nth rg 2 = some ⟨false, ck, none⟩⟩,
      ⟨14, 31, .bool (.lit true), fun _ f => ev f (.tmp 25) = some (.raw (.string sk)) ∧ ev f (.tmp 30) = some (.raw (.string sk))⟩,
      ⟨20, 37, .raw (.string sf), fun rg f => ev f (.tmp 36) = some vf ∧ nth rg 3 = some ⟨false, cf, none⟩⟩,
      ⟨24, 41, .raw (.string sf), fun rg f => ev f (.tmp 40) = some (.osl 4 0 qf 1 none) ∧ nth rg 4 = some ⟨false, cf, none⟩⟩,
      ⟨25, 42, .bool (.lit true), fun _ f => ev f (.tmp 37) = some (.raw (.string sf)) ∧ ev f (.tmp 41) = some (.raw (.string sf))⟩,
      ⟨32, 49, .bool (.lit true), fun _ f => ev f (.tmp 46) = some (.bool (.v mb)) ∧ ev f (.tmp 48) = some (.bool (.v mb))⟩]) rfl
    (orC_ok (callAny_ok Try.call15 (fun s x hp E N w1 args hP _ him hS ha => ?_)) (orC_ok (callAny_ok Try.call14 (fun s x hp E N w1 args hP _ him hS ha => ?_)) (orC_ok (callAny_ok Try.call17 (fun s x hp E N w1 args hP _ him hS ha => ?_))
      (orC_ok (callAny_ok Try.call12 (fun s x hp E N w1 args hP _ him hS ha => ?_)) (orC_ok (callAny_ok Try.call18 (fun s x hp E N w1 args hP _ him hS ha => ?_)) (orC_ok (callAny_ok Try.call19 (fun s x hp E N w1 args hP _ him hS ha => ?_)) (orC_ok (callAny_ok Try.call20 (fun s x hp E N w1 args hP _ him hS ha => ?_)) (callAny_ok Try.call11 (fun s x hp E N w1 args hP _ him hS ha => ?_)))))))))
    (valR_ok _ (by kernel_rfl) (fun q' hq' => ?_)) 54 rfl ?_
  · obtain ⟨rfl, h2⟩ := hp
    obtain ⟨p, hp⟩ := num_of hS h2
    obtain ⟨c, ha⟩ : ∃ c, args = [.slice p1 m c1, .slice (some ⟨p.b, p.o + 0, none⟩) m c] := by
      simp only [SV.denL, SV.den, hp] at ha
      exact ⟨_, (Option.some.inj ha).symm⟩
    rw [ha]
    refine (same_ok b1 o1 _ _ m c1 c _ _ L w1 hp1 (fun _ => rfl) hm.symm hm8 (hpi w1 (by rw [← him]; exact hS.imm)) (ptIn_of hS h2 hp hcs)).mono fun e w' ⟨he, hch⟩ => ⟨N, _, he, Nums.le.refl N, rfl, ?_⟩
    rw [List.append_nil]
    exact hS.after0 hch
  · obtain ⟨rfl, h2⟩ := hp
    have ha : args = [.slice p1 m c1, .int .u8 key, .int .i64 many] := (Option.some.inj ha).symm
    rw [ha]
    refine (keepers_ok b1 o1 m c1 p1 L key many w1 hp1 hm.symm hm8 (hpi w1 (by rw [← him]; exact hS.imm)) (by rw [hL]; exact ringP_rise d) (by rw [hL]; exact ringP_byte hd)).mono fun e w' hr => ?_
    rw [← hK] at hr
    have := hr.gsat hS (by omega)
    rw [h2, ← hq, ← hvk, ← hck] at this
    exact this
  · obtain ⟨rfl, h2⟩ := hp
    obtain ⟨p, hp⟩ := num_of hS h2
    obtain ⟨c, ha⟩ : ∃ c, args = [.slice (some ⟨p.b, p.o + 0, none⟩) m c, .int .u8 key, .int .i64 many] := by
      simp only [SV.denL, SV.den, SI.den, hp] at ha
      exact ⟨_, (Option.some.inj ha).symm⟩
    rw [ha]
    refine (keepers9_ok _ _ m c _ L key many w1 (fun _ => rfl) hm.symm hm8 (ptIn_of hS h2 hp hcs) (by rw [hL]; exact ringP_rise d)).mono fun e w' hr => ?_
    rw [← hK, ← hq, ← hck] at hr
    exact hr.sat (by decide) hS
  · obtain ⟨rfl, h2⟩ := hp
    have ha : args = [.slice po n cp, .int .u8 key] := (Option.some.inj ha).symm
    rw [ha]
    refine (of_ok po n cp d key w1 (by omega) (hInM w1 (by rw [← him]; exact hS.imm)) hd).mono fun e w' hr => ?_
    rw [← hF] at hr
    have := hr.gsat hS (by omega)
    rw [h2, ← hqf, ← hvf, ← hcf] at this
    exact this
  · subst hp
    have ha : args = [.slice po n cp, .int .u8 key] := (Option.some.inj ha).symm
    rw [ha]
    refine (of9_ok po n cp d key w1 (by omega) (hInM w1 (by rw [← him]; exact hS.imm)) hd).mono fun e w' hr => ?_
    rw [← hF, ← hqf, ← hcf] at hr
    exact hr.sat (by decide) hS
  · subst hp
    have ha : args = [.slice po n cp] := (Option.some.inj ha).symm
    rw [ha]
    refine (may_ok po n cp d w1 (by omega) (hInM w1 (by rw [← him]; exact hS.imm))).mono fun e w' ⟨he, hch⟩ => ⟨N, _, he, Nums.le.refl N, by rw [hmb]; rfl, ?_⟩
    rw [List.append_nil]
    exact hS.after0 hch
  · subst hp
    have ha : args = [.slice po n cp] := (Option.some.inj ha).symm
    rw [ha]
    refine (may9_ok po n cp d w1 (by omega) (hInM w1 (by rw [← him]; exact hS.imm))).mono fun e w' ⟨he, hch⟩ => ⟨N, _, he, Nums.le.refl N, by rw [hmb]; rfl, ?_⟩
    rw [List.append_nil]
    exact hS.after0 hch
  · subst hp
    have ha : args = [] := (Option.some.inj ha).symm
    rw [ha]
    refine (awake_ok w1).mono fun e w' ⟨he, hch⟩ => ⟨N, _, he, Nums.le.refl N, rfl, ?_⟩
    rw [List.append_nil]
    exact hS.after0 hch
  · simp only [List.mem_cons, List.not_mem_nil, or_false] at hq'
    rcases hq' with rfl | rfl | rfl | rfl | rfl | rfl | rfl
    · exact goodR_strG (fun o ho => by cases ho; rfl) Try.underlying22 Try.underlying5 Try.underlying9 ck hck hq.symm hsk hvk
    · exact goodR_str1 (fun o ho => by cases ho; rfl) Try.underlying22 Try.underlying5 Try.underlying9 ck hck hq.symm hsk
    · exact goodR_eq1 (fun o ho => by cases ho; rfl)
    · exact goodR_strG (fun o ho => by cases ho; rfl) Try.underlying22 Try.underlying5 Try.underlying9 cf hcf hqf.symm hsf hvf
    · exact goodR_str1 (fun o ho => by cases ho; rfl) Try.underlying22 Try.underlying5 Try.underlying9 cf hcf hqf.symm hsf
    · exact goodR_eq1 (fun o ho => by cases ho; rfl)
    · exact goodR_eqb (fun o ho => by cases ho; rfl) Try.underlying4
  generalize hfin : (fun s' => X (mkE Try.prog Try.f6 Q w (InR [] []) im (fun _ _ => False) (fun _ => True) [] B6) _ s') = fin
  conv => cbv
  subst hfin
  show X (mkE Try.prog Try.f6 Q w (InR [] []) im (fun _ _ => False) (fun _ => True) [] B6) _ _
  refine X.go T6_ok 400 _ rfl Try.results6 ?_
  conv => arg 2; cbv
  refine X.done T6_ok rfl (fun N w' v hN hS hv => ?_)
  rw [hQ]
  exact ⟨fin_bool hv rfl, hS.chg.none⟩

set_option maxHeartbeats 8000000 in
set_option maxRecDepth 100000 in
set_option cbv.maxSteps 100000000 in
theorem builds_ok (po : Option Addr) (n cp : Nat) (d : Array Int) (key many : Int) (w : World) (hIn : InB po n d w) (hd : ∀ x ∈ d.toList, 0 ≤ x ∧ x < 256) :
    Calls Try.prog 6 #[.slice po n cp, .int .u8 key, .int .i64 many] w fun e w' => e = .returned (.bool true) ∧ Chg (fun _ _ => False) w w' := by
  have hn := hIn.1
  obtain ⟨Q, hQ⟩ : ∃ Q : Ending → World → Prop, Q = fun e w' => e = .returned (.bool true) ∧ Chg (fun _ _ => False) w w' := ⟨_, rfl⟩
  rw [← hQ]
  refine X.begin (rg := []) (N := []) (ss := [.slv po n cp, .int .u8 (.v key), .int .i64 (.v many)]) Try.func6 rfl B6_ok rfl rfl Sat.std0 ?_
  refine X.go T6_ok 400 _ rfl Try.results6 ?_
  conv => arg 2; cbv
  refine X.cond rfl (fun h => ?_) (fun h => ?_)
  · skip
    refine X.go T6_ok 400 _ rfl Try.results6 ?_
    conv => arg 2; cbv
    refine X.call rfl rfl rfl rfl Try.call11 (fun N w1 args hN hS ha => ?_)
    have ha : args = [] := (Option.some.inj ha).symm
    rw [ha]
    refine (awake_ok w1).mono fun e w2 ⟨he, hch⟩ => ⟨_, he, Goes.same hN hS hch (r := .bool (.lit true)) rfl rfl ?_⟩
    refine X.go T6_ok 400 _ rfl Try.results6 ?_
    conv => arg 2; cbv
    refine X.done T6_ok rfl (fun N w' v hN hS hv => ?_)
    rw [hQ]
    exact ⟨fin_bool hv rfl, hS.chg.none⟩
  · simp only [SB.F, SI.den] at h
    have h80 : n ≤ 80 := by omega
    refine X.go T6_ok 400 _ rfl Try.results6 ?_
    conv => arg 2; cbv
    refine X.call rfl rfl rfl rfl Try.call13 (fun N w1 args hN hS ha => ?_)
    have ha : args = [.slice po n cp] := (Option.some.inj ha).symm
    rw [ha]
    refine (build_ok po n cp d w1 (by omega) (hIn.stays hS.chg.none)).mono fun e w2 ⟨p1, c1, he, hr, hch⟩ => ⟨_, he, ?_⟩
    obtain ⟨L, hL⟩ : ∃ L, L = ringP d := ⟨_, rfl⟩
    obtain ⟨m, hm⟩ : ∃ m, m = L.length := ⟨_, rfl⟩
    rw [← hL] at hr
    rw [← hL, ← hm]
    refine Goes.newMem hN hS hch (r := .slv p1 m c1) rfl rfl (fun hold hnew => ?_)
    obtain ⟨im, him⟩ : ∃ im, im = imNew (elsewhere [] [] w) w1 w2 := ⟨_, rfl⟩
    obtain ⟨b1, o1, hp1, hpi⟩ : ∃ b o, (0 < m → p1 = some ⟨b, o, none⟩) ∧ ∀ j, j < L.length → im b (o + j * 2) = some (.int .u64 L[j]!.1) ∧ im b (o + j * 2 + 1) = some (.int .u8 L[j]!.2) := by
      rcases hr with h | ⟨b, o, h1, h2, h3⟩
      · exact ⟨0, 0, fun h0 => by rw [hm, h] at h0; simp at h0, fun j hj => by rw [h] at hj; simp at hj⟩
      · refine ⟨b, o, fun _ => h1, fun j hj => ?_⟩
        have := PtIn.of h3 j hj
        rw [him]
        exact ⟨hnew _ _ _ h2 this.1, hnew _ _ _ h2 this.2⟩
    have hInM : ∀ w' : World, (∀ k o v, im k o = some v → w'.cell? ⟨k, o, none⟩ = some v) → InB po n d w' := fun w' h => ⟨hn, fun h0 => by
      obtain ⟨b, y, e1, e2⟩ := hIn.2 h0
      exact ⟨b, y, e1, fun j hj => h _ _ _ (by rw [him]; exact hold _ _ _ (by show elsewhere [] [] w b (y + j) = _; rw [els_old]; exact e2 j hj))⟩⟩
    show X (mkE Try.prog Try.f6 Q w (InR [] []) (imNew (elsewhere [] [] w) w1 w2) (fun _ _ => False) (fun _ => True) [] B6) _ _
    rw [← him]
    clear him hold hnew hr hch he ha hS hN
    refine X.go T6_ok 400 _ rfl Try.results6 ?_
    conv => arg 2; cbv
    refine X.call rfl rfl rfl rfl Try.call16 (fun N w3 args hN hS ha => ?_)
    have ha : args = [.slice po n cp] := (Option.some.inj ha).symm
    rw [ha]
    refine (build9_ok po n cp d w3 (by omega) (hInM w3 hS.imm)).mono fun e w4 hr => ?_
    obtain ⟨cs, hcs⟩ : ∃ c, c = ptsL L := ⟨_, rfl⟩
    rw [← hL, ← hm, ← hcs] at hr
    refine Goes.ro hN hS (sz := 2) (by decide) hr rfl ?_
    refine X.go T6_ok 2 _ rfl Try.results6 ?_
    conv => arg 2; cbv
    refine X.less [0, 1, 2, 7, 8] ?_
    exact builds_tail po p1 n cp m c1 b1 o1 d L key many w im Q hQ h80 hn hInM hd hL hm hp1 (fun w' h j hj => ⟨h _ _ _ (hpi j hj).1, h _ _ _ (hpi j hj).2⟩) cs hcs

end Go.Proofs.Ythaffebapmkppaa
