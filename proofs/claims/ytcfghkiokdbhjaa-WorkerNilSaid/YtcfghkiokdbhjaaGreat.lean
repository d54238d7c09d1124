/- scrutineerref06.Great: it tells a Bool, whatever the register. -/
import Derived.Test.YtcfghkiokdbhjaaTab

namespace Go.Proofs.Ytcfghkiokdbhjaa
open Go.Eng

theorem elsewhere_nil (w : World) (k o : Nat) : elsewhere [] [] w k o = w.cell? ⟨k, o, none⟩ := by
  unfold elsewhere
  rw [if_neg]
  rintro ⟨r, g, p, hg, _⟩
  simp at hg

theorem wrap64 (i : Nat) (h : i < 1000) : IntKind.i64.wrap ((i : Int) + 1) = (i : Int) + 1 := by
  simp [IntKind.wrap, IntKind.bits, IntKind.signed]
  omega

set_option maxRecDepth 100000 in
set_option cbv.maxSteps 100000000 in
theorem great_ok (kd inc st nx : Int) (pv pd po pm : Option Addr) (nv cv nd cd no co nm cm : Nat) (w : World)
    (hd : ∀ i, i < nd → ∃ b x y z p n c, pd = some ⟨b, x, none⟩ ∧ y = x + i * 6 ∧ z = y + 5 ∧ w.cell? ⟨b, z, none⟩ = some (.slice p n c)) :
    Calls Try.prog 19 #[.agg #[.int .u8 kd, .int .u64 inc, .int .i64 st, .slice pv nv cv, .slice pd nd cd, .slice po no co, .int .u64 nx, .slice pm nm cm]] w fun e w' => (∃ b, e = .returned (.bool b)) ∧ Chg (fun _ _ => False) w w' := by
  refine X.begin (rg := []) (N := []) (ss := [.agg [.int .u8 (.v kd), .int .u64 (.v inc), .int .i64 (.v st), .slv pv nv cv, .slv pd nd cd, .slv po no co, .int .u64 (.v nx), .slv pm nm cm]]) Try.func19 rfl B19_ok rfl rfl Sat.std0 ?_
  refine X.go T19_ok 1000 _ rfl Try.results19 ?_
  conv => arg 2; cbv
  refine X.cond rfl (fun hc => ?_) (fun hc => ?_)
  · refine X.go T19_ok 1000 _ rfl Try.results19 ?_
    conv => arg 2; cbv
    refine X.done T19_ok rfl (fun N w' v hN hS hv => ?_)
    simp [resV, SV.den, SB.den] at hv
    exact ⟨⟨true, by rw [← hv]⟩, hS.chg.none⟩
  · refine X.go T19_ok 1000 _ rfl Try.results19 ?_
    conv => arg 2; cbv
    simp only [SB.F, SI.den] at hc
    refine X.loop1 (fun (i : {i : Nat // i ≤ nd}) => ⟨[(1, .val (.own 0 0)), (28, .val (.int .i64 (.nat nd))), (29, .val (.int .i64 (.nat i.1)))],
      [⟨true, [.int .u8 (.v kd), .int .u64 (.v inc), .int .i64 (.v st), .slv pv nv cv, .slv pd nd cd, .slv po no co, .int .u64 (.v nx), .slv pm nm cm]⟩]⟩) (fun i => nd - i.1) (fun N a w' hN hf hS => ⟨⟨0, Nat.zero_le _⟩, ?_⟩) (fun i q hq => ?_)
    · exact At.same hN hf hS (Nat.zero_le _) ⟨⟨_, rfl, .inl ⟨rfl, rfl⟩⟩, ⟨_, rfl, .inl ⟨rfl, rfl⟩⟩, ⟨_, rfl, .inr ⟨_, rfl, rfl⟩⟩, trivial⟩ ⟨rfl, SubC.refl rfl, trivial⟩
    obtain ⟨i, hi⟩ := i
    refine X.go T19_ok 1000 _ rfl Try.results19 ?_
    conv => arg 2; cbv
    refine X.cond rfl (fun hlt => ?_) (fun hge => ?_)
    · simp only [SB.T, SI.den] at hlt
      obtain ⟨b, x, y, z, p, n, c, rfl, hy, hz, hcell⟩ := hd i (by omega)
      refine X.go T19_ok 1000 _ rfl Try.results19 ?_
      conv => arg 2; cbv
      refine X.idxSlv rfl rfl rfl rfl rfl Try.underlying40 Try.sizeOf133 i rfl (by omega) b x y rfl hy rfl ?_
      refine X.go T19_ok 1000 _ rfl Try.results19 ?_
      conv => arg 2; cbv
      refine X.load1 T19_ok (r := .slv p n c) rfl rfl rfl rfl rfl rfl (fun N _ => ⟨_, rfl, by show elsewhere [] [] w b (y + 5) = _; rw [elsewhere_nil, ← hcell, hz]⟩) rfl ?_
      refine X.go T19_ok 1000 _ rfl Try.results19 ?_
      conv => arg 2; cbv
      refine X.cond rfl (fun h50 => ?_) (fun h50 => ?_)
      · refine X.go T19_ok 1000 _ rfl Try.results19 ?_
        conv => arg 2; cbv
        refine X.done T19_ok rfl (fun N w' v hN hS hv => ?_)
        simp [resV, SV.den, SB.den] at hv
        exact ⟨⟨true, by rw [← hv]⟩, hS.chg.none⟩
      · refine X.go T19_ok 1000 _ rfl Try.results19 ?_
        conv => arg 2; cbv
        refine X.back (fun N a w' hN hf hS => hq ⟨i + 1, by omega⟩ a w' (by show nd - (i + 1) < nd - i; omega) ?_)
        exact At.same hN hf hS (Nat.zero_le _) ⟨⟨_, rfl, .inl ⟨rfl, rfl⟩⟩, ⟨_, rfl, .inl ⟨rfl, rfl⟩⟩, ⟨_, rfl, .inr ⟨_, rfl, by simp [SV.den, SI.den, wrap64 i (by omega)]⟩⟩, trivial⟩ ⟨rfl, SubC.refl rfl, trivial⟩
    · refine X.go T19_ok 1000 _ rfl Try.results19 ?_
      conv => arg 2; cbv
      refine X.done T19_ok rfl (fun N w' v hN hS hv => ?_)
      simp [resV, SV.den, SB.den] at hv
      exact ⟨⟨false, by rw [← hv]⟩, hS.chg.none⟩
end Go.Proofs.Ytcfghkiokdbhjaa
