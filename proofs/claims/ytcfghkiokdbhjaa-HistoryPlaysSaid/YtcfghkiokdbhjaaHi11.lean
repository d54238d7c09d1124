/- The document's comparisons of replies and entries: the same are told to be so. -/
import Derived.Test.YtcfghkiokdbhjaaHiQ
import Derived.Test.YtcfghkiokdbhjaaEng20

namespace Go.Eng

theorem le_eq {N N' : Nums} (h : N.le N') (hl : N'.length = N.length) : N' = N := by
  apply List.ext_getElem?
  intro r
  rcases Nat.lt_or_ge r N.length with hr | hr
  · obtain ⟨p, hp⟩ : ∃ p, N[r]? = some p := ⟨_, List.getElem?_eq_getElem hr⟩
    rw [hp, h r p hp]
  · rw [List.getElem?_eq_none hr, List.getElem?_eq_none (by omega)]

end Go.Eng

namespace Go.Proofs.Ytcfghkiokdbhjaa
open Go.Eng

set_option maxHeartbeats 40000000 in
set_option maxRecDepth 100000 in
set_option cbv.maxSteps 100000000 in
theorem sameReply_ok (re ri rs : Int) (vn : Nat) (p1 p2 : Option Addr) (c1 c2 : Nat) (g : Nat → Int) (w : World) (hn : vn ≤ 1000) (h1 : IntsIn p1 vn g w) (h2 : IntsIn p2 vn g w) :
    Calls Try.prog 71 #[.agg #[.int .i64 re, .int .u64 ri, .int .i64 rs, .slice p1 vn c1], .agg #[.int .i64 re, .int .u64 ri, .int .i64 rs, .slice p2 vn c2]] w fun e w' => e = .returned (.bool true) ∧ Chg (fun _ _ => False) w w' := by
  refine X.begin (rg := []) (N := []) (ss := [.agg [.int .i64 (.v re), .int .u64 (.v ri), .int .i64 (.v rs), .slv p1 vn c1], .agg [.int .i64 (.v re), .int .u64 (.v ri), .int .i64 (.v rs), .slv p2 vn c2]]) Try.func71 rfl B71_ok rfl rfl Sat.std0 ?_
  refine X.go T71_ok 400 _ rfl Try.results71 ?_
  conv => arg 2; cbv
  refine X.cond rfl (fun h => ?_) (fun _ => ?_)
  · exfalso
    simp [SB.T, SI.den, SB.den] at h
  refine X.go T71_ok 400 _ rfl Try.results71 ?_
  conv => arg 2; cbv
  refine X.loop1 (fun (i : {i : Nat // i ≤ vn}) => ⟨[(2, .val (.own 0 0)), (3, .val (.own 1 0)), (36, .val (.int .i64 (.nat vn))), (37, .val (.int .i64 (.nat i.1)))], [⟨true, [.int .i64 (.v re), .int .u64 (.v ri), .int .i64 (.v rs), .slv p1 vn c1], none⟩, ⟨true, [.int .i64 (.v re), .int .u64 (.v ri), .int .i64 (.v rs), .slv p2 vn c2], none⟩]⟩) (fun i => vn - i.1) (fun N a w' hN hf hS => ⟨⟨0, Nat.zero_le _⟩, ?_⟩) (fun i q hq => ?_)
  · exact At.same hN hf hS (Nat.zero_le _) ⟨⟨_, rfl, .inl ⟨rfl, rfl⟩⟩, ⟨_, rfl, .inl ⟨rfl, rfl⟩⟩, ⟨_, rfl, .inl ⟨rfl, rfl⟩⟩, ⟨_, rfl, .inr ⟨_, rfl, rfl⟩⟩, trivial⟩ ⟨fun h => h, SubC.refl rfl, rfl, ⟨fun h => h, SubC.refl rfl, rfl, trivial⟩⟩
  obtain ⟨i, hi⟩ := i
  refine X.go T71_ok 400 _ rfl Try.results71 ?_
  conv => arg 2; cbv
  refine X.cond rfl (fun hlt => ?_) (fun hge => ?_)
  · simp only [SB.T, SI.den] at hlt
    have hlt : i < vn := by omega
    obtain ⟨b1, y1, hp1, k1⟩ := h1 (by omega)
    obtain ⟨b2, y2, hp2, k2⟩ := h2 (by omega)
    obtain ⟨z1, hz1⟩ : ∃ z, z = y1 + i := ⟨_, rfl⟩
    obtain ⟨z2, hz2⟩ : ∃ z, z = y2 + i := ⟨_, rfl⟩
    refine X.names fun N hN0 hNl => ?_
    obtain ⟨q0, q1, rfl⟩ : ∃ p0 p1, N = [p0, p1] := by
      have hNl : N.length = 2 := hNl
      match N, hNl with
      | [p0, p1], _ => exact ⟨p0, p1, rfl⟩
    clear hN0 hNl
    refine X.see b1 z1 [.int .i64 (.v (g i))] (fun j d hj => ?_) (by show 0 < 1; omega) (fun N hNN hN => ?_)
    · cases j with
      | zero => simp at hj; subst hj; exact ⟨_, rfl, by show elsewhere [] [] w b1 (z1 + 0) = _; rw [else0, hz1]; exact k1 i hlt⟩
      | succ j => simp at hj
    obtain rfl := le_eq (N := [q0, q1]) hNN hN
    refine X.see b2 z2 [.int .i64 (.v (g i))] (fun j d hj => ?_) (by show 0 < 1; omega) (fun N hNN2 hN2 => ?_)
    · cases j with
      | zero => simp at hj; subst hj; exact ⟨_, rfl, by show elsewhere [] [] w b2 (z2 + 0) = _; rw [else0, hz2]; exact k2 i hlt⟩
      | succ j => simp at hj
    obtain rfl := le_eq (N := [q0, q1] ++ [⟨b1, z1, 0⟩]) hNN2 hN2
    clear hNN hN hNN2 hN2
    show X (mkE Try.prog Try.f71 _ w (InR [] []) (elsewhere [] [] w) (fun _ _ => False) (fun _ => True) [q0, q1, ⟨b1, z1, 0⟩, ⟨b2, z2, 0⟩] B71) _ _
    refine X.go T71_ok 400 _ rfl Try.results71 ?_
    conv => arg 2; cbv
    refine X.drawnO T71_ok noCall (idxG 52 [⟨3, 41, 42, 43, 37, i, .slv p1 vn c1, .own 2 0⟩, ⟨8, 46, 47, 48, 37, i, .slv p2 vn c2, .own 3 0⟩]) rfl noCall_ok (idxG_ok _ (by kernel_rfl) (fun q hq => ?_)) 52 rfl ?_
    · simp only [List.mem_cons, List.mem_nil_iff, or_false] at hq
      rcases hq with rfl | rfl
      · exact good_slv Try.underlying37 Try.sizeOf2 hp1 hlt fun N hN => by
          have := hN 2 _ rfl
          simp only [SV.den, this, hz1, Nat.add_zero, Nat.mul_one]
      · exact good_slv Try.underlying37 Try.sizeOf2 hp2 hlt fun N hN => by
          have := hN 3 _ rfl
          simp only [SV.den, this, hz2, Nat.add_zero, Nat.mul_one]
    generalize hfin : (fun s' => X (mkE Try.prog Try.f71 _ w (InR [] []) (elsewhere [] [] w) (fun _ _ => False) (fun _ => True) [q0, q1, ⟨b1, z1, 0⟩, ⟨b2, z2, 0⟩] B71) _ s') = fin
    conv => cbv
    repeat (first | refine ⟨rfl, ?_⟩ | refine ⟨⟨_, _, rfl, rfl⟩, ?_⟩ | refine ⟨⟨rfl, _, _, rfl, rfl⟩, ?_⟩)
    subst hfin
    show X _ _ _
    refine X.go T71_ok 400 _ rfl Try.results71 ?_
    conv => arg 2; cbv
    refine X.cond rfl (fun h => ?_) (fun _ => ?_)
    · exact absurd rfl h
    refine X.go T71_ok 400 _ rfl Try.results71 ?_
    conv => arg 2; cbv
    refine X.back (fun N a w' hN hf hS => hq ⟨i + 1, by omega⟩ a w' (by show vn - (i + 1) < vn - i; omega) ?_)
    exact At.same (nil_le N) hf hS (Nat.zero_le _) ⟨⟨_, rfl, .inl ⟨rfl, rfl⟩⟩, ⟨_, rfl, .inl ⟨rfl, rfl⟩⟩, ⟨_, rfl, .inl ⟨rfl, rfl⟩⟩, ⟨_, rfl, .inr ⟨_, rfl, by simp [SV.den, SI.den, hwrap64s i (by omega)]⟩⟩, trivial⟩ ⟨fun h => h, SubC.refl rfl, rfl, ⟨fun h => h, SubC.refl rfl, rfl, trivial⟩⟩
  · refine X.go T71_ok 400 _ rfl Try.results71 ?_
    conv => arg 2; cbv
    refine X.done T71_ok rfl (fun N w' v hN hS hv => ?_)
    simp [resV, SV.den, SB.den] at hv
    exact ⟨by rw [← hv], hS.chg.none⟩

set_option maxHeartbeats 40000000 in
set_option maxRecDepth 100000 in
set_option cbv.maxSteps 100000000 in
theorem same_ok (po1 po2 : Option Addr) (n c1 c2 : Nat) (f1 f2 : Nat → Ent) (G : Nat → Nat → Int) (w : World) (hn : n ≤ 1000) (hE1 : EntsIn po1 n f1 w) (hE2 : EntsIn po2 n f2 w) (hlike : ∀ i, i < n → (f1 i).like (f2 i))
    (hG : ∀ i, i < n → IntsIn (f1 i).vp (f1 i).vn (G i) w ∧ IntsIn (f2 i).vp (f1 i).vn (G i) w ∧ (f1 i).vn ≤ 1000) :
    Calls Try.prog 38 #[.slice po1 n c1, .slice po2 n c2] w fun e w' => e = .returned (.bool true) ∧ Chg (fun _ _ => False) w w' := by
  refine X.begin (rg := []) (N := []) (ss := [.slv po1 n c1, .slv po2 n c2]) Try.func38 rfl B38_ok rfl rfl Sat.std0 ?_
  refine X.go T38_ok 400 _ rfl Try.results38 ?_
  conv => arg 2; cbv
  refine X.cond rfl (fun h => ?_) (fun _ => ?_)
  · exfalso
    simp [SB.T, SI.den, SB.den] at h
  refine X.go T38_ok 400 _ rfl Try.results38 ?_
  conv => arg 2; cbv
  refine X.loop1 (fun (i : {i : Nat // i ≤ n}) => ⟨[(0, .val (.slv po1 n c1)), (1, .val (.slv po2 n c2)), (14, .val (.int .i64 (.nat n))), (15, .val (.int .i64 (.nat i.1)))], []⟩) (fun i => n - i.1) (fun N a w' hN hf hS => ⟨⟨0, Nat.zero_le _⟩, ?_⟩) (fun i q hq => ?_)
  · exact At.same hN hf hS (Nat.zero_le _) ⟨⟨_, rfl, .inl ⟨rfl, rfl⟩⟩, ⟨_, rfl, .inl ⟨rfl, rfl⟩⟩, ⟨_, rfl, .inl ⟨rfl, rfl⟩⟩, ⟨_, rfl, .inr ⟨_, rfl, rfl⟩⟩, trivial⟩ trivial
  obtain ⟨i, hi⟩ := i
  refine X.go T38_ok 400 _ rfl Try.results38 ?_
  conv => arg 2; cbv
  refine X.cond rfl (fun hlt => ?_) (fun hge => ?_)
  · simp only [SB.T, SI.den] at hlt
    have hlt : i < n := by omega
    obtain ⟨b1, y1, z1, hp1, hz1, k1⟩ := hE1 i hlt
    obtain ⟨b2, y2, z2, hp2, hz2, k2⟩ := hE2 i hlt
    obtain ⟨p2, c2', e2⟩ := hlike i hlt
    obtain ⟨g1, g2, g3⟩ := hG i hlt
    rw [e2] at k2 g2
    generalize f1 i = e at k1 k2 g1 g2 g3
    have g2 : IntsIn p2 e.vn (G i) w := g2
    refine X.go T38_ok 400 _ rfl Try.results38 ?_
    conv => arg 2; cbv
    refine X.idxSlv rfl rfl rfl rfl rfl Try.underlying71 Try.sizeOf93 i rfl hlt b1 y1 z1 hp1 hz1 rfl ?_
    refine X.go T38_ok 400 _ rfl Try.results38 ?_
    conv => arg 2; cbv
    refine X.loadN T38_ok (rs := e.sv) rfl rfl rfl rfl rfl rfl rfl (fun N _ => ⟨e.vals, rfl, fun j v hj => by
      show elsewhere [] [] w b1 (z1 + 0 + j) = _
      rw [else0, Nat.add_zero]; exact k1 j v hj⟩) rfl ?_
    refine X.go T38_ok 400 _ rfl Try.results38 ?_
    conv => arg 2; cbv
    refine X.idxSlv rfl rfl rfl rfl rfl Try.underlying71 Try.sizeOf93 i rfl hlt b2 y2 z2 hp2 hz2 rfl ?_
    refine X.go T38_ok 400 _ rfl Try.results38 ?_
    conv => arg 2; cbv
    refine X.loadN T38_ok (rs := Ent.sv { e with vp := p2, vc := c2' }) rfl rfl rfl rfl rfl rfl rfl (fun N _ => ⟨_, rfl, fun j v hj => by
      show elsewhere [] [] w b2 (z2 + 0 + j) = _
      rw [else0, Nat.add_zero]; exact k2 j v hj⟩) rfl ?_
    refine X.go T38_ok 400 _ rfl Try.results38 ?_
    conv => arg 2; cbv
    refine X.lit 59 rfl (fun h => ?_) (fun _ => ?_)
    · exfalso
      simp [SB.T, SB.F, SI.den, SB.den] at h
    refine X.go T38_ok 400 _ rfl Try.results38 ?_
    conv => arg 2; cbv
    refine X.bare rfl rfl ?_
    refine X.call rfl rfl rfl rfl Try.call71 (fun N w1 args hN hS ha => ?_)
    have ha' : [Value.agg #[.int .i64 e.re, .int .u64 e.ri, .int .i64 e.rs, .slice e.vp e.vn e.vc], .agg #[.int .i64 e.re, .int .u64 e.ri, .int .i64 e.rs, .slice p2 e.vn c2']] = args := Option.some.inj (ha ▸ rfl : some _ = some args)
    subst ha'
    have him : ∀ k o v, w.cell? ⟨k, o, none⟩ = some v → w1.cell? ⟨k, o, none⟩ = some v := fun k o v h => hS.imm k o v (by show elsewhere [] [] w k o = _; rw [else0]; exact h)
    refine (sameReply_ok e.re e.ri e.rs e.vn e.vp p2 e.vc c2' (G i) w1 g3 (g1.at him) (g2.at him)).mono fun ed w' ⟨he, hc⟩ => ⟨_, he, Goes.same (r := .bool (.lit true)) hN hS hc rfl rfl ?_⟩
    clear hc he hS hN ha him
    refine X.go T38_ok 400 _ rfl Try.results38 ?_
    conv => arg 2; cbv
    refine X.back (fun N a w' hN hf hS => hq ⟨i + 1, by omega⟩ a w' (by show n - (i + 1) < n - i; omega) ?_)
    exact At.same hN hf hS (Nat.zero_le _) ⟨⟨_, rfl, .inl ⟨rfl, rfl⟩⟩, ⟨_, rfl, .inl ⟨rfl, rfl⟩⟩, ⟨_, rfl, .inl ⟨rfl, rfl⟩⟩, ⟨_, rfl, .inr ⟨_, rfl, by simp [SV.den, SI.den, hwrap64s i (by omega)]⟩⟩, trivial⟩ trivial
  · refine X.go T38_ok 400 _ rfl Try.results38 ?_
    conv => arg 2; cbv
    refine X.done T38_ok rfl (fun N w' v hN hS hv => ?_)
    simp [resV, SV.den, SB.den] at hv
    exact ⟨by rw [← hv], hS.chg.none⟩

end Go.Proofs.Ytcfghkiokdbhjaa
