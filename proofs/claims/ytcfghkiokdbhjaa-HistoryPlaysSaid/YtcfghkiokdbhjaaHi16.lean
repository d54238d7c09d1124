/- The document's history: Begin. -/
import Derived.Test.YtcfghkiokdbhjaaHi15
import Derived.Test.YtcfghkiokdbhjaaHj9
import Derived.Test.YtcfghkiokdbhjaaHiN
import Derived.Test.YtcfghkiokdbhjaaEng21

namespace Go.Eng

/-- a slot's value, told in other words -/
theorem X.reval {E : Ctx} {k : List It} {s : St} (t : Nat) {v : SV} (v' : SV) (hl : look s.fr t = .val v) (hd : ∀ N, E.N0.le N → ∀ x, v.den N = some x → v'.den N = some x) (h : X E k ⟨(t, .val v') :: s.fr, s.rg⟩) : X E k s := by
  refine X.conv fun N a w hN hf hS => ?_
  refine ⟨E, ⟨(t, .val v') :: s.fr, s.rg⟩, rfl, rfl, rfl, rfl, ⟨N, hN, ⟨hf.size, hf.defers, fun t' => ?_⟩, hS⟩, h⟩
  simp only [look]
  cases e : Nat.beq t t' with
  | false => exact hf.ok t'
  | true =>
    have e := Nat.eq_of_beq_eq_true e
    subst e
    have := hf.ok t
    rw [hl] at this
    obtain ⟨x, h1, h2⟩ := this
    exact ⟨x, hd N hN x h1, h2⟩

end Go.Eng

namespace Go.Proofs.Ytcfghkiokdbhjaa
open Go.Eng

/-- the document's answer -/
def rbegE (i : Int) (o : Ent) (er : Int) (sl : Value) : Ending := .returned (.tuple #[.int .i64 i, .agg o.opv, .int .i64 er, sl])

set_option maxHeartbeats 40000000 in
set_option maxRecDepth 100000 in
set_option cbv.maxSteps 100000000 in
theorem rbegin_out (po : Option Addr) (n cp : Nat) (nd k yy c s a p r u ii l at' : Int) (w : World) (h0c : 0 ≤ c) (hc : c = 0 ∨ ¬ MayP k yy c a p u) :
    Calls Try.prog 29 #[.slice po n cp, .int .u8 nd, .agg #[.int .u8 k, .int .u8 yy, .int .u8 c, .int .u64 s, .int .i64 a, .int .i64 p, .int .i64 r, .int .u8 u, .int .u64 ii, .int .u64 l], .int .i64 at'] w
      fun e w' => e = rbegE 0 Ent.z 1 (.slice po n cp) ∧ Chg (fun _ _ => False) w w' := by
  refine X.begin (rg := []) (N := []) (ss := [.slv po n cp, .int .u8 (.v nd), .agg [.int .u8 (.v k), .int .u8 (.v yy), .int .u8 (.v c), .int .u64 (.v s), .int .i64 (.v a), .int .i64 (.v p), .int .i64 (.v r), .int .u8 (.v u), .int .u64 (.v ii), .int .u64 (.v l)], .int .i64 (.v at')]) Try.func29 rfl B29_ok rfl rfl Sat.std0 ?_
  refine X.go T29_ok 400 _ rfl Try.results29 ?_
  conv => arg 2; cbv
  refine X.lit 18 rfl (fun _ => ?_) (fun h0 => ?_)
  · refine X.go T29_ok 400 _ rfl Try.results29 ?_
    conv => arg 2; cbv
    refine X.done T29_ok rfl (fun N w' v hN hS hv => ?_)
    cases hv
    exact ⟨rfl, hS.chg.none⟩
  have h0 : ¬ c = 0 := h0
  refine X.go T29_ok 400 _ rfl Try.results29 ?_
  conv => arg 2; cbv
  refine X.bare rfl rfl ?_
  refine X.call rfl rfl rfl rfl Try.call67 (fun N w1 args hN hS ha => ?_)
  have ha' : [Value.agg #[.int .u8 k, .int .u8 yy, .int .u8 c, .int .u64 1, .int .i64 a, .int .i64 p, .int .i64 r, .int .u8 u, .int .u64 ii, .int .u64 l]] = args := Option.some.inj (ha ▸ rfl : some _ = some args)
  subst ha'
  refine (rmay_eq _ _ _ _ _ _ _ _ _ w1 (by omega)).mono fun e w' ⟨⟨b, he, hb8⟩, hch⟩ => ⟨_, he, Goes.same (r := .bool (.v b)) hN hS hch rfl rfl ?_⟩
  have hbf : b = false := by
    cases b with
    | false => rfl
    | true => exact absurd (hb8.1 rfl) (hc.resolve_left h0)
  subst hbf
  refine X.go T29_ok 400 _ rfl Try.results29 ?_
  conv => arg 2; cbv
  refine X.cond rfl (fun _ => ?_) (fun h1 => ?_)
  · refine X.go T29_ok 400 _ rfl Try.results29 ?_
    conv => arg 2; cbv
    refine X.done T29_ok rfl (fun N w' v hN hS hv => ?_)
    cases hv
    exact ⟨rfl, hS.chg.none⟩
  · exfalso
    simp [SB.F, SB.T] at h1

/-- the number that Begin gives -/
def seqOf (f : Nat → Ent) (c : Int) : Nat → Int
  | 0 => 1
  | i + 1 => if (f i).c = c then IntKind.u64.wrap (seqOf f c i + 1) else seqOf f c i

set_option maxHeartbeats 40000000 in
set_option maxRecDepth 100000 in
set_option cbv.maxSteps 100000000 in
theorem rbegin_in (po : Option Addr) (n cp : Nat) (f : Nat → Ent) (S : Nat → Int) (S0 : S 0 = 1) (nd k yy c s a p r u ii l at' : Int) (SS : ∀ i, S (i + 1) = if (f i).c = c then IntKind.u64.wrap (S i + 1) else S i) (w : World) (hn : n ≤ 1000) (hE : EntsIn po n f w) (h0c : 1 ≤ c) (hmay : MayP k yy c a p u) :
    Calls Try.prog 29 #[.slice po n cp, .int .u8 nd, .agg #[.int .u8 k, .int .u8 yy, .int .u8 c, .int .u64 s, .int .i64 a, .int .i64 p, .int .i64 r, .int .u8 u, .int .u64 ii, .int .u64 l], .int .i64 at'] w
      fun e w' => ((e = rbegE 0 Ent.z 16 (.slice po n cp) ∧ (∃ i, i < n ∧ (f i).is c)) ∨ ((∀ i, i < n → ¬ (f i).is c) ∧ ∃ b' y' c', e = rbegE n ⟨nd, k, yy, c, S n, a, p, r, u, ii, l, at', 0, 0, 0, 0, 0, none, 0, 0⟩ 0 (.slice (some ⟨b', y', none⟩) (n + 1) c') ∧ w.heap.size ≤ b' ∧ n + 1 ≤ c' ∧
        ∀ i, i < n + 1 → ∀ (q : Nat) (v : Value), (updA f n ⟨nd, k, yy, c, S n, a, p, r, u, ii, l, at', 0, 0, 0, 0, 0, none, 0, 0⟩ i).vals[q]? = some v → w'.cell? ⟨b', y' + (i * 18 + q), none⟩ = some v)) ∧ Chg (fun _ _ => False) w w' := by
  obtain ⟨Q, hQ⟩ : ∃ Q : Ending → World → Prop, Q = fun e w' => ((e = rbegE 0 Ent.z 16 (.slice po n cp) ∧ (∃ i, i < n ∧ (f i).is c)) ∨ ((∀ i, i < n → ¬ (f i).is c) ∧ ∃ b' y' c', e = rbegE n ⟨nd, k, yy, c, S n, a, p, r, u, ii, l, at', 0, 0, 0, 0, 0, none, 0, 0⟩ 0 (.slice (some ⟨b', y', none⟩) (n + 1) c') ∧ w.heap.size ≤ b' ∧ n + 1 ≤ c' ∧
        ∀ i, i < n + 1 → ∀ (q : Nat) (v : Value), (updA f n ⟨nd, k, yy, c, S n, a, p, r, u, ii, l, at', 0, 0, 0, 0, 0, none, 0, 0⟩ i).vals[q]? = some v → w'.cell? ⟨b', y' + (i * 18 + q), none⟩ = some v)) ∧ Chg (fun _ _ => False) w w' := ⟨_, rfl⟩
  rw [← hQ]
  refine X.begin (rg := []) (N := []) (ss := [.slv po n cp, .int .u8 (.v nd), .agg [.int .u8 (.v k), .int .u8 (.v yy), .int .u8 (.v c), .int .u64 (.v s), .int .i64 (.v a), .int .i64 (.v p), .int .i64 (.v r), .int .u8 (.v u), .int .u64 (.v ii), .int .u64 (.v l)], .int .i64 (.v at')]) Try.func29 rfl B29_ok rfl rfl Sat.std0 ?_
  refine X.go T29_ok 400 _ rfl Try.results29 ?_
  conv => arg 2; cbv
  refine X.lit 18 rfl (fun h0 => ?_) (fun _ => ?_)
  · have h0 : c = 0 := h0
    omega
  refine X.go T29_ok 400 _ rfl Try.results29 ?_
  conv => arg 2; cbv
  refine X.bare rfl rfl ?_
  refine X.call rfl rfl rfl rfl Try.call67 (fun N w1 args hN hS ha => ?_)
  have ha' : [Value.agg #[.int .u8 k, .int .u8 yy, .int .u8 c, .int .u64 1, .int .i64 a, .int .i64 p, .int .i64 r, .int .u8 u, .int .u64 ii, .int .u64 l]] = args := Option.some.inj (ha ▸ rfl : some _ = some args)
  subst ha'
  refine (rmay_eq _ _ _ _ _ _ _ _ _ w1 h0c).mono fun e w' ⟨⟨b, he, hb8⟩, hch⟩ => ⟨_, he, Goes.same (r := .bool (.v b)) hN hS hch rfl rfl ?_⟩
  have hbt : b = true := hb8.2 hmay
  clear hch he hS hN ha
  refine X.go T29_ok 400 _ rfl Try.results29 ?_
  conv => arg 2; cbv
  refine X.cond rfl (fun h => ?_) (fun _ => ?_)
  · exact absurd hbt (by simpa [SB.T, SB.F] using h)
  refine X.go T29_ok 400 _ rfl Try.results29 ?_
  conv => arg 2; cbv
  refine X.call rfl rfl rfl rfl Try.call37 (fun N w1 args hN hS ha => ?_)
  have ha' : [Value.slice po n cp, .int .u8 c] = args := Option.some.inj (ha ▸ rfl : some _ = some args)
  subst ha'
  have him : ∀ k o v, w.cell? ⟨k, o, none⟩ = some v → w1.cell? ⟨k, o, none⟩ = some v := fun k o v h => hS.imm k o v (by show elsewhere [] [] w k o = _; rw [else0]; exact h)
  refine (ropen_ok po n cp c f w1 hn (hE.at him)).mono fun e w' ⟨⟨r0, he, hf⟩, hch⟩ => ⟨_, he, Goes.same (r := .int .i64 (.v r0)) hN hS hch rfl rfl ?_⟩
  clear hch he hS hN ha him
  refine X.go T29_ok 400 _ rfl Try.results29 ?_
  conv => arg 2; cbv
  refine X.cond rfl (fun h2 => ?_) (fun h2 => ?_)
  · have h2 : 0 ≤ r0 := h2
    refine X.go T29_ok 400 _ rfl Try.results29 ?_
    conv => arg 2; cbv
    refine X.done T29_ok rfl (fun N w' v hN hS hv => ?_)
    cases hv
    rw [hQ]
    refine ⟨.inl ⟨rfl, ?_⟩, hS.chg.none⟩
    rcases hf with ⟨h, _⟩ | ⟨i, h1, _, h, _⟩
    · omega
    · exact ⟨i, h1, h⟩
  have hnone : ∀ i, i < n → ¬ (f i).is c := by
    have h3 : r0 < 0 := h2
    rcases hf with ⟨_, h⟩ | ⟨i, _, h, _⟩
    · exact h
    · omega
  refine X.go T29_ok 400 _ rfl Try.results29 ?_
  conv => arg 2; cbv
  refine X.loop1 (fun (i : {i : Nat // i ≤ n}) => ⟨[(0, .val (.slv po n cp)), (1, .val (.int .u8 (.v nd))), (3, .val (.int .i64 (.v at'))), (6, .val (.own 0 0)), (9, .val (.own 1 0)), (33, .val (.int .i64 (.nat n))), (34, .val (.int .i64 (.nat i.1)))],
    [⟨true, [.int .u8 (.v k), .int .u8 (.v yy), .int .u8 (.v c), .int .u64 (.v (S i.1)), .int .i64 (.v a), .int .i64 (.v p), .int .i64 (.v r), .int .u8 (.v u), .int .u64 (.v ii), .int .u64 (.v l)], none⟩, ⟨true, [.int .u8 (.lit 0), .int .u8 (.lit 0), .int .u8 (.lit 0), .int .u64 (.lit 0), .int .i64 (.lit 0), .int .i64 (.lit 0), .int .i64 (.lit 0), .int .u8 (.lit 0), .int .u64 (.lit 0), .int .u64 (.lit 0)], none⟩]⟩) (fun i => n - i.1) (fun N a w' hN hf hS => ⟨⟨0, Nat.zero_le _⟩, ?_⟩) (fun i q hq => ?_)
  · exact At.same hN hf hS (Nat.zero_le _) ⟨⟨_, rfl, .inl ⟨rfl, rfl⟩⟩, ⟨_, rfl, .inl ⟨rfl, rfl⟩⟩, ⟨_, rfl, .inl ⟨rfl, rfl⟩⟩, ⟨_, rfl, .inl ⟨rfl, rfl⟩⟩, ⟨_, rfl, .inl ⟨rfl, rfl⟩⟩, ⟨_, rfl, .inl ⟨rfl, rfl⟩⟩, ⟨_, rfl, .inr ⟨_, rfl, rfl⟩⟩, trivial⟩ ⟨fun h => h, ⟨.inl ⟨rfl, rfl⟩, .inl ⟨rfl, rfl⟩, .inl ⟨rfl, rfl⟩, .inr ⟨_, rfl, by simp [SV.den, SI.den, S0]⟩, .inl ⟨rfl, rfl⟩, .inl ⟨rfl, rfl⟩, .inl ⟨rfl, rfl⟩, .inl ⟨rfl, rfl⟩, .inl ⟨rfl, rfl⟩, .inl ⟨rfl, rfl⟩, trivial⟩, rfl, ⟨fun h => h, SubC.refl rfl, rfl, trivial⟩⟩
  obtain ⟨i, hi⟩ := i
  refine X.go T29_ok 400 _ rfl Try.results29 ?_
  conv => arg 2; cbv
  refine X.cond rfl (fun hlt => ?_) (fun hge => ?_)
  · simp only [SB.T, SI.den] at hlt
    have hlt : i < n := by omega
    obtain ⟨b, y, z, hpo, hz, hcell⟩ := hE i hlt
    have hSS := SS i
    generalize f i = e at hcell hSS
    refine X.names fun N _ hNl => ?_
    have hNl : N.length = 2 := hNl
    obtain ⟨q0, q1, rfl⟩ : ∃ q0 q1, N = [q0, q1] := by
      match N, hNl with
      | [q0, q1], _ => exact ⟨q0, q1, rfl⟩
    refine X.see b z e.sv (fun j d hj => ?_) (by show 0 < 18; omega) (fun N hN1 hN => ?_)
    · obtain ⟨v, h1, h2⟩ := (SV.denL_get _ (e.den [])).2 j d hj
      exact ⟨v, h1, by show elsewhere [] [] w b (z + j) = _; rw [else0]; exact hcell j v h2⟩
    obtain rfl := le_eq (N := [q0, q1]) hN1 hN
    clear hN1 hN hNl
    have hr : ∀ N : Nums, Nums.le [q0, q1, ⟨b, z, 0⟩] N → (SV.own 2 0).den N = some (.pointer (some ⟨b, y + i * 18, none⟩)) := fun N hN => by
      have := hN 2 _ rfl
      simp only [SV.den, this, hz, Nat.add_zero]
    show X (mkE Try.prog Try.f29 Q w (InR [] []) (elsewhere [] [] w) (fun _ _ => False) (fun _ => True) [q0, q1, ⟨b, z, 0⟩] B29) _ _
    refine X.go T29_ok 400 _ rfl Try.results29 ?_
    conv => arg 2; cbv
    refine X.drawnO T29_ok noCall (idxG 64 [⟨2, 37, 38, 39, 71, i, .slv po n cp, .own 2 0⟩]) rfl noCall_ok (idxG_ok _ (by kernel_rfl) (fun q hq => ?_)) 64 rfl ?_
    · simp only [List.mem_cons, List.mem_nil_iff, or_false] at hq
      rw [hq]
      exact good_slv Try.underlying71 Try.sizeOf93 hpo hlt hr
    generalize hfin : (fun s' => X (mkE Try.prog Try.f29 Q w (InR [] []) (elsewhere [] [] w) (fun _ _ => False) (fun _ => True) [q0, q1, ⟨b, z, 0⟩] B29) _ s') = fin
    conv => cbv
    repeat (first | refine ⟨rfl, ?_⟩ | refine ⟨⟨_, _, rfl, rfl⟩, ?_⟩ | refine ⟨⟨rfl, _, _, rfl, rfl⟩, ?_⟩)
    subst hfin
    show X _ _ _
    refine X.go T29_ok 400 _ rfl Try.results29 ?_
    conv => arg 2; cbv
    refine X.cond rfl (fun hc => ?_) (fun hc => ?_)
    · have hc : e.c = c := hc
      rw [if_pos hc] at hSS
      refine X.go T29_ok 400 _ rfl Try.results29 ?_
      conv => arg 2; cbv
      refine X.back (fun N a w' hN hf hS => hq ⟨i + 1, by omega⟩ a w' (by show n - (i + 1) < n - i; omega) ?_)
      exact At.same (nil_le N) hf hS (Nat.zero_le _) ⟨⟨_, rfl, .inl ⟨rfl, rfl⟩⟩, ⟨_, rfl, .inl ⟨rfl, rfl⟩⟩, ⟨_, rfl, .inl ⟨rfl, rfl⟩⟩, ⟨_, rfl, .inl ⟨rfl, rfl⟩⟩, ⟨_, rfl, .inl ⟨rfl, rfl⟩⟩, ⟨_, rfl, .inl ⟨rfl, rfl⟩⟩, ⟨_, rfl, .inr ⟨_, rfl, by simp [SV.den, SI.den, hwrap64s i (by omega)]⟩⟩, trivial⟩ ⟨fun h => h, ⟨.inl ⟨rfl, rfl⟩, .inl ⟨rfl, rfl⟩, .inl ⟨rfl, rfl⟩, .inr ⟨_, rfl, by simp [SV.den, SI.den, hSS]⟩, .inl ⟨rfl, rfl⟩, .inl ⟨rfl, rfl⟩, .inl ⟨rfl, rfl⟩, .inl ⟨rfl, rfl⟩, .inl ⟨rfl, rfl⟩, .inl ⟨rfl, rfl⟩, trivial⟩, rfl, ⟨fun h => h, SubC.refl rfl, rfl, trivial⟩⟩
    · have hc : ¬ e.c = c := hc
      rw [if_neg hc] at hSS
      refine X.go T29_ok 400 _ rfl Try.results29 ?_
      conv => arg 2; cbv
      refine X.back (fun N a w' hN hf hS => hq ⟨i + 1, by omega⟩ a w' (by show n - (i + 1) < n - i; omega) ?_)
      exact At.same (nil_le N) hf hS (Nat.zero_le _) ⟨⟨_, rfl, .inl ⟨rfl, rfl⟩⟩, ⟨_, rfl, .inl ⟨rfl, rfl⟩⟩, ⟨_, rfl, .inl ⟨rfl, rfl⟩⟩, ⟨_, rfl, .inl ⟨rfl, rfl⟩⟩, ⟨_, rfl, .inl ⟨rfl, rfl⟩⟩, ⟨_, rfl, .inl ⟨rfl, rfl⟩⟩, ⟨_, rfl, .inr ⟨_, rfl, by simp [SV.den, SI.den, hwrap64s i (by omega)]⟩⟩, trivial⟩ ⟨fun h => h, ⟨.inl ⟨rfl, rfl⟩, .inl ⟨rfl, rfl⟩, .inl ⟨rfl, rfl⟩, .inr ⟨_, rfl, by simp [SV.den, SI.den, hSS]⟩, .inl ⟨rfl, rfl⟩, .inl ⟨rfl, rfl⟩, .inl ⟨rfl, rfl⟩, .inl ⟨rfl, rfl⟩, .inl ⟨rfl, rfl⟩, .inl ⟨rfl, rfl⟩, trivial⟩, rfl, ⟨fun h => h, SubC.refl rfl, rfl, trivial⟩⟩
  simp only [SB.F, SI.den] at hge
  have hin : n = i := by omega
  subst hin
  clear hge
  obtain ⟨cs, hcs⟩ : ∃ cs, cs = rowsL (fun i => (f i).sv) n := ⟨_, rfl⟩
  have hlen : cs.length = n * 18 := by rw [hcs]; exact rowsL_len (fun i => (f i).len) n
  obtain ⟨n1, hn1⟩ : ∃ n1, n1 = n + 1 := ⟨_, rfl⟩
  obtain ⟨nw, hnw⟩ : ∃ nw : List SV, nw = [.int .u8 (.v nd), .int .u8 (.v k), .int .u8 (.v yy), .int .u8 (.v c), .int .u64 (.v (S n)), .int .i64 (.v a), .int .i64 (.v p), .int .i64 (.v r), .int .u8 (.v u), .int .u64 (.v ii), .int .u64 (.v l), .int .i64 (.v at'), .int .i64 (.lit 0), .int .u8 (.lit 0), .int .i64 (.lit 0), .int .u64 (.lit 0), .int .i64 (.lit 0), .raw (.slice none 0 0)] := ⟨_, rfl⟩
  obtain ⟨cs2, hcs2⟩ : ∃ cs2, cs2 = cs ++ nw := ⟨_, rfl⟩
  refine X.go T29_ok 400 _ rfl Try.results29 ?_
  conv => arg 2; cbv
  by_cases h0 : n = 0
  · subst h0
    refine X.app0 T29_ok rfl rfl rfl rfl rfl rfl rfl rfl rfl rfl (by decide) rfl (by decide) rfl ?_
    refine X.goC .nil true T29_ok 400 _ rfl Try.results29 ?_
    conv => arg 2; cbv
    refine X.done T29_ok rfl (fun N w' v hN hS hv => ?_)
    obtain ⟨p4, hp4⟩ : ∃ p, N[4]? = some p := ⟨_, List.getElem?_eq_getElem (by rw [hS.len]; show 4 < 5; omega)⟩
    have hext := hS.ext 4 _ p4 rfl hp4 rfl
    have hext : 18 ≤ p4.x := hext
    simp [resV, SV.den, SV.denL, SI.den, hp4, Num.cap] at hv
    rw [hQ]
    refine ⟨.inr ⟨hnone, p4.b, p4.o, p4.x / 18, by rw [← hv]; rfl, ?_, (Nat.le_div_iff_mul_le (by decide)).2 (by omega), fun i hi q v hq => ?_⟩, hS.chg.none⟩
    · rcases hS.foot 4 _ p4 rfl hp4 rfl with h | h
      · exact h
      · exact absurd (h 0 (by omega)) inR_nil
    · obtain rfl : i = 0 := by omega
      have := hS.row (r := 4) rfl hp4 rfl q v hq
      rw [Nat.zero_mul, Nat.zero_add]; exact this
  · obtain ⟨b, y, z, hpo, hz, hcell⟩ := hE 0 (by omega)
    refine X.names fun N _ hNl => ?_
    have hNl : N.length = 3 := hNl
    obtain ⟨q0, q1, q2, rfl⟩ : ∃ q0 q1 q2, N = [q0, q1, q2] := by
      match N, hNl with
      | [q0, q1, q2], _ => exact ⟨q0, q1, q2, rfl⟩
    refine X.see b y cs (fun j d hj => ?_) (by omega) (fun N hN1 hN => ?_)
    · obtain ⟨h1, h2, h3, h4⟩ := rowsL_get (fun i => (f i).len) (by decide) (hcs ▸ hj)
      obtain ⟨v, h5, h6⟩ := Ent.get _ _ _ h4 []
      obtain ⟨b', y', z', e1, e2, e3⟩ := hE (j / 18) h1
      rw [hpo] at e1; cases e1
      refine ⟨v, h5, ?_⟩
      have := e3 _ _ h6
      rw [e2, Nat.add_assoc, ← h3] at this
      show elsewhere [] [] w b (y + j) = _
      rw [else0]; exact this
    obtain rfl := le_eq (N := [q0, q1, q2]) hN1 hN
    clear hN1 hN hNl
    show X (mkE Try.prog Try.f29 Q w (InR [] []) (elsewhere [] [] w) (fun _ _ => False) (fun _ => True) [q0, q1, q2, ⟨b, y, 0⟩] B29) _ _
    refine X.reval 52 (.osl 3 0 n 18 (some cp)) rfl (fun N hN x hx => ?_) ?_
    · have := hN 3 _ rfl
      rw [← hx]
      simp only [SV.den, this, Num.cap, Nat.add_zero, hpo]
    apply X.opEq (T := T29) T29_ok
    · exact opE_append (te := ti93) (new := cs) (m := n) rfl rfl rfl rfl rfl rfl rfl rfl (appSrc_row (g := ⟨false, cs, none⟩) rfl rfl rfl hlen)
        (appV_new (te := ti93) rfl h0 (appOk_ok (by decide) rfl hlen (by rw [hcs]; exact rowsL_all (fun i => (f i).one) n) (by show (2 * (0 + n) + 256) * 144 ≤ _; omega) (by omega))) rfl
    refine X.less [0, 1, 3, 6, 9, 53] ?_
    refine X.go T29_ok 3 _ rfl Try.results29 ?_
    conv => arg 2; cbv
    refine X.drawnE (fn := Try.f29) T29_ok 9 (fun s => match putO 64 s.fr (some 63) (.val (.osl s.rg.length 0 n1 18 none)) with | some f => some ⟨f, s.rg.set 4 ⟨false, [], none⟩ ++ [⟨true, cs2, none⟩]⟩ | none => none) (idxG 64 []) rfl (idxG_ok [] rfl (fun q hq => absurd hq List.not_mem_nil)) 64 rfl (fun pr hpr => ?_)
    generalize hfin : (fun s' => X (mkE Try.prog Try.f29 Q w (InR [] []) (elsewhere [] [] w) (fun _ _ => False) (fun _ => True) [q0, q1, q2, ⟨b, y, 0⟩] B29) _ s') = fin
    conv => cbv
    repeat (first | refine ⟨rfl, ?_⟩ | refine ⟨⟨_, _, rfl, rfl⟩, ?_⟩ | refine ⟨⟨rfl, _, _, rfl, rfl⟩, ?_⟩)
    refine ⟨hpr _ _ ?_, ?_⟩
    · rw [hcs2, hn1]
      exact opE_append (te := ti93) (new := nw) (m := 1) rfl rfl rfl rfl rfl rfl rfl rfl (appSrc_row (g := ⟨true, nw, none⟩) rfl rfl (by rw [hnw]; rfl) (by rw [hnw]; rfl))
        (appV_hid (te := ti93) (n := n) rfl hlen (by decide) (appOk_ok (by decide) rfl (by rw [hnw]; rfl) (by rw [hnw]; rfl) (by show (2 * (n + 1) + 256) * 144 ≤ _; omega) (by omega))) rfl
    repeat (first | refine ⟨rfl, ?_⟩ | refine ⟨⟨_, _, rfl, rfl⟩, ?_⟩ | refine ⟨⟨rfl, _, _, rfl, rfl⟩, ?_⟩)
    subst hfin
    show X _ _ _
    refine X.go T29_ok 400 _ rfl Try.results29 ?_
    conv => arg 2; cbv
    refine X.done T29_ok rfl (fun N w' v hN hS hv => ?_)
    obtain ⟨p6, hp6⟩ : ∃ p, N[6]? = some p := ⟨_, List.getElem?_eq_getElem (by rw [hS.len]; show 6 < 7; omega)⟩
    have hl2 : cs2.length = n * 18 + 18 := by rw [hcs2, List.length_append, hlen, hnw]; rfl
    have hext := hS.ext 6 ⟨true, cs2, none⟩ p6 rfl hp6 rfl
    simp only [hl2] at hext
    simp [resV, SV.den, SV.denL, SI.den, hp6, Num.cap] at hv
    rw [hQ]
    refine ⟨.inr ⟨hnone, p6.b, p6.o, p6.x / 18, by rw [← hv, hn1]; rfl, ?_, (Nat.le_div_iff_mul_le (by decide)).2 (by omega), fun i hi q v hq => ?_⟩, hS.chg.none⟩
    · rcases hS.foot 6 ⟨true, cs2, none⟩ p6 rfl hp6 rfl with h | h
      · exact h
      · exact absurd (h 0 (by omega)) inR_nil
    · have hq18 : q < 18 := by
        have := (List.getElem?_eq_some_iff.1 hq).1
        simpa [Ent.vlen] using this
      by_cases e : i = n
      · subst e
        simp only [updA, if_true] at hq
        have hd : SV.denL N nw = some (Ent.vals ⟨nd, k, yy, c, S i, a, p, r, u, ii, l, at', 0, 0, 0, 0, 0, none, 0, 0⟩) := by rw [hnw]; rfl
        obtain ⟨e1, e2⟩ := SV.denL_get _ hd
        obtain ⟨c', hc'⟩ : ∃ c', nw[q]? = some c' := ⟨_, List.getElem?_eq_getElem (by rw [← e1]; exact (List.getElem?_eq_some_iff.1 hq).1)⟩
        obtain ⟨v', e3, e4⟩ := e2 q c' hc'
        rw [hq] at e4; cases e4
        exact hS.at hp6 (g := ⟨true, cs2, none⟩) rfl (j := i * 18 + q) (by
          show cs2[i * 18 + q]? = _
          rw [hcs2, List.getElem?_append_right (by omega), hlen, Nat.add_sub_cancel_left]; exact hc') e3
      · simp only [updA, e, if_false] at hq
        exact rows_at hS (r := 6) (cs := cs2) (f := f) (n := n) rfl hp6 (fun i hi j hj => by
          rw [hcs2, List.getElem?_append_left (by rw [hlen]; exact idx_lt hi hj), hcs]
          exact rowsL_at (fun i => (f i).len) hj hi) i (by omega) q v hq

end Go.Proofs.Ytcfghkiokdbhjaa
