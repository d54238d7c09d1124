/- The history's functions: Lost. (Printed by genLost.py.) -/
import Derived.Test.YtcfghkiokdbhjaaHi4

namespace Go.Proofs.Ytcfghkiokdbhjaa
open Go.Eng

/-- the environment's side conditions of a body at work on a history -/
theorem hist_O {H : Hist} {w : World} : ∀ k o, H.D k o → w.heap.size ≤ k ∨ H.D k o := fun _ _ h => .inr h
theorem hist_im {H : Hist} {w : World} : ∀ k o, H.D k o → outside H.D w k o = none := fun _ _ h => outside_in h

def lostE (nd : Int) (e : Ent) : Ent := if e.nd = nd ∧ e.st = 0 then { e with st := 2 } else e
def lostN (nd : Int) (f : Nat → Ent) : Nat → Nat
  | 0 => 0
  | n + 1 => if (f n).nd = nd ∧ (f n).st = 0 then lostN nd f n + 1 else lostN nd f n
def lostF (nd : Int) (f : Nat → Ent) (n : Nat) : Nat → Ent := fun k => if k < n then lostE nd (f k) else f k

theorem lostN_le (nd : Int) (f : Nat → Ent) : ∀ n, lostN nd f n ≤ n
  | 0 => Nat.le_refl _
  | n + 1 => by have := lostN_le nd f n; unfold lostN; split <;> omega

theorem lostF_step (nd : Int) (f : Nat → Ent) (i : Nat) (e : Ent) (he : e = lostE nd (f i)) : updA (lostF nd f i) i e = lostF nd f (i + 1) := by
  funext k
  unfold updA lostF
  by_cases h : k = i
  · subst h; simp [he]
  · by_cases h2 : k < i
    · simp [h, h2, show k < i + 1 by omega]
    · simp [h, h2, show ¬ k < i + 1 by omega]

theorem lostF_same (nd : Int) (f : Nat → Ent) (i : Nat) (he : lostE nd (f i) = f i) : lostF nd f i = lostF nd f (i + 1) := by
  rw [← lostF_step nd f i (f i) he.symm]
  funext k
  unfold updA
  by_cases h : k = i
  · subst h; simp [lostF]
  · simp [h]

set_option maxHeartbeats 40000000 in
set_option maxRecDepth 100000 in
set_option cbv.maxSteps 100000000 in
theorem lost_aux (hb hy : Nat) (nl : Bool) (eb ey n cp : Nat) (q : Nat → Int) (f : Nat → Ent) (nd : Int) (L : Nat → Nat) (F : Nat → Nat → Ent) (L0 : L 0 = 0) (Lle : ∀ i, L i ≤ i) (F0 : F 0 = f) (Fi : ∀ i, F i i = f i)
    (hyes : ∀ i, ((f i).nd = nd ∧ (f i).st = 0) → L (i + 1) = L i + 1 ∧ F (i + 1) = updA (F i) i { f i with st := 2 }) (hnot : ∀ i, ¬ ((f i).nd = nd ∧ (f i).st = 0) → L (i + 1) = L i ∧ F (i + 1) = F i)
    (w : World) (ok : Hist.Ok ⟨hb, hy, nl, eb, ey, n, cp, q, f⟩) (h : HistAt ⟨hb, hy, nl, eb, ey, n, cp, q, f⟩ w) (hn : n ≤ 1000) :
    Calls Try.prog 34 #[.pointer (some ⟨hb, hy, none⟩), .int .u8 nd] w fun e w' => (e = .returned (.int .i64 (L n : Nat)) ∧ HistAt ⟨hb, hy, nl, eb, ey, n, cp, q, F n⟩ w') ∧ Chg (Hist.D ⟨hb, hy, nl, eb, ey, n, cp, q, f⟩) w w' := by

  obtain ⟨po, hpo⟩ : ∃ po, Hist.po ⟨hb, hy, nl, eb, ey, n, cp, q, f⟩ = po := ⟨_, rfl⟩
  refine X.beginR (Hist.D ⟨hb, hy, nl, eb, ey, n, cp, q, f⟩) (HistAt ⟨hb, hy, nl, eb, ey, n, cp, q, f⟩) (ss := [.ext hb hy 0, .int .u8 (.v nd)]) Try.func34 rfl B34_ok rfl rfl h.there (HistAt.loc ok) h ?_
  have okf : ∀ f, Hist.Ok ⟨hb, hy, nl, eb, ey, n, cp, q, f⟩ := fun f => ⟨ok.nil, ok.le, ok.apart⟩
  have locf : ∀ f', Eng.Loc (Hist.D ⟨hb, hy, nl, eb, ey, n, cp, q, f⟩) (HistAt ⟨hb, hy, nl, eb, ey, n, cp, q, f'⟩) := fun f' => HistAt.loc (okf f')
  refine X.go T34_ok 400 _ rfl Try.results34 ?_
  conv => arg 2; cbv
  refine X.load1R T34_ok (r := .slv po n cp) rfl rfl rfl rfl rfl rfl (fun N w1 _ hw => ⟨_, rfl, by rw [← hpo]; exact hw.hd⟩) rfl ?_
  refine X.go T34_ok 400 _ rfl Try.results34 ?_
  conv => arg 2; cbv
  refine X.loop (fun (i : {i : Nat // i ≤ n}) => mkE Try.prog Try.f34 (fun e w' => (e = .returned (.int .i64 (L n : Nat)) ∧ HistAt ⟨hb, hy, nl, eb, ey, n, cp, q, F n⟩ w') ∧ Chg (Hist.D ⟨hb, hy, nl, eb, ey, n, cp, q, f⟩) w w') w (Hist.D ⟨hb, hy, nl, eb, ey, n, cp, q, f⟩) (outside (Hist.D ⟨hb, hy, nl, eb, ey, n, cp, q, f⟩) w) (Hist.D ⟨hb, hy, nl, eb, ey, n, cp, q, f⟩) (HistAt ⟨hb, hy, nl, eb, ey, n, cp, q, F i.1⟩) [] B34)
    (fun i => ⟨[(0, .val (.ext hb hy 0)), (1, .val (.int .u8 (.v nd))), (5, .val (.int .i64 (.nat (L i.1)))), (13, .val (.slv po n cp)), (14, .val (.int .i64 (.nat n))), (15, .val (.int .i64 (.nat i.1)))], []⟩) (fun i => n - i.1) (fun i => ⟨rfl, rfl, rfl, rfl⟩) (fun N a w' hN hf hS => ⟨⟨0, Nat.zero_le _⟩, ?_⟩) (fun i qq hq => ?_)
  · refine At.mk hN hf hS (Nat.zero_le _) ⟨⟨_, rfl, .inl ⟨rfl, rfl⟩⟩, ⟨_, rfl, .inl ⟨rfl, rfl⟩⟩, ⟨_, rfl, .inr ⟨_, rfl, by simp [SV.den, SI.den, L0]⟩⟩, ⟨_, rfl, .inl ⟨rfl, rfl⟩⟩, ⟨_, rfl, .inl ⟨rfl, rfl⟩⟩, ⟨_, rfl, .inr ⟨_, rfl, rfl⟩⟩, trivial⟩ trivial (fun _ _ _ h => h) (locf _) ?_
    rw [F0]
    exact hS.res
  obtain ⟨i, hi⟩ := i
  refine X.go T34_ok 400 _ rfl Try.results34 ?_
  conv => arg 2; cbv
  refine X.cond rfl (fun hlt => ?_) (fun hge => ?_)
  · simp only [SB.T, SI.den] at hlt
    have hlt : i < n := by omega
    have hfi := Fi i
    have hpo' : po = some ⟨eb, ey, none⟩ := by rw [← hpo]; exact ok.po_some hlt
    obtain ⟨z, hz⟩ : ∃ z, z = ey + i * 18 := ⟨_, rfl⟩
    refine X.go T34_ok 400 _ rfl Try.results34 ?_
    conv => arg 2; cbv
    refine X.idxSlv rfl rfl rfl rfl rfl Try.underlying71 Try.sizeOf93 i rfl hlt eb ey z hpo' hz rfl ?_
    refine X.go T34_ok 400 _ rfl Try.results34 ?_
    conv => arg 2; cbv
    refine X.loadNR T34_ok (rs := (f i).sv) rfl rfl rfl rfl rfl rfl rfl (fun N w1 _ hw => ⟨(f i).vals, rfl, fun j v hj => by
      have := (hw.ents i hlt).2 j v (by show (F i i).vals[j]? = some v; rw [hfi]; exact hj)
      rw [Nat.add_zero, hz, Nat.add_assoc]; exact this.1⟩) rfl ?_
    refine X.go T34_ok 400 _ rfl Try.results34 ?_
    conv => arg 2; cbv
    refine X.cond rfl (fun hy2 => ?_) (fun hy2 => ?_)
    · simp only [SB.T, SI.den] at hy2
      refine X.go T34_ok 400 _ rfl Try.results34 ?_
      conv => arg 2; cbv
      refine X.load1R T34_ok (r := .slv po n cp) rfl rfl rfl rfl rfl rfl (fun N w1 _ hw => ⟨_, rfl, by rw [← hpo]; exact hw.hd⟩) rfl ?_
      refine X.go T34_ok 400 _ rfl Try.results34 ?_
      conv => arg 2; cbv
      refine X.idxSlv rfl rfl rfl rfl rfl Try.underlying71 Try.sizeOf93 i rfl hlt eb ey z hpo' hz rfl ?_
      refine X.go T34_ok 400 _ rfl Try.results34 ?_
      conv => arg 2; cbv
      obtain ⟨hN1, hF1⟩ := hyes i hy2
      refine X.storeR T34_ok (HistAt ⟨hb, hy, nl, eb, ey, n, cp, q, F (i + 1)⟩) rfl rfl rfl rfl rfl rfl rfl rfl (fun j hj => .inr ⟨rfl, ?_, ?_⟩) hist_O hist_im (by simp) (fun w1 hw j hj => ?_) (fun N w1 vs _ hw hvs => ?_) (locf (F (i + 1))) rfl ?_
      · show ey ≤ z + 13 + j; omega
      · have := ok.inD (i := i) (j := 13 + j) hlt (by have : j < 1 := hj; omega)
        simp only at this
        show z + 13 + j < ey + cp * 18; omega
      · have hj : j < 1 := hj
        have := ok.inD (i := i) (j := 13 + j) hlt (by omega)
        simp only at this
        have := hw.room (i * 18 + 13 + j) (by show i * 18 + 13 + j < cp * 18; omega)
        simp only at this
        rwa [show ey + (i * 18 + 13 + j) = z + 13 + j by omega] at this
      · have hvs : [Value.int .u8 2] = vs := Option.some.inj hvs
        subst hvs
        have := hw.put (okf _) (i := i) (j0 := 13) (vs := [.int .u8 2]) (e' := { f i with st := 2 }) hlt (by show _ = (F i i).vals.take 13 ++ _ ++ (F i i).vals.drop _; rw [hfi]; rfl) (by decide)
        simp only at this
        rw [← hF1, show ey + (i * 18 + 13) = z + 13 by omega] at this
        exact this
      show X (mkE Try.prog Try.f34 (fun e w' => (e = .returned (.int .i64 (L n : Nat)) ∧ HistAt ⟨hb, hy, nl, eb, ey, n, cp, q, F n⟩ w') ∧ Chg (Hist.D ⟨hb, hy, nl, eb, ey, n, cp, q, f⟩) w w') w (Hist.D ⟨hb, hy, nl, eb, ey, n, cp, q, f⟩) (outside (Hist.D ⟨hb, hy, nl, eb, ey, n, cp, q, f⟩) w) (Hist.D ⟨hb, hy, nl, eb, ey, n, cp, q, f⟩) (HistAt ⟨hb, hy, nl, eb, ey, n, cp, q, F (i + 1)⟩) [] B34) _ _
      refine X.go T34_ok 400 _ rfl Try.results34 ?_
      conv => arg 2; cbv
      refine X.back (fun N a w' hN hf hS => hq ⟨i + 1, by omega⟩ a w' (by show n - (i + 1) < n - i; omega) ?_)
      exact At.same hN hf hS (Nat.zero_le _) ⟨⟨_, rfl, .inl ⟨rfl, rfl⟩⟩, ⟨_, rfl, .inl ⟨rfl, rfl⟩⟩, ⟨_, rfl, .inr ⟨_, rfl, by have := Lle i; simp [SV.den, SI.den, hN1, hwrap64s (L i) (by omega)]⟩⟩, ⟨_, rfl, .inl ⟨rfl, rfl⟩⟩, ⟨_, rfl, .inl ⟨rfl, rfl⟩⟩, ⟨_, rfl, .inr ⟨_, rfl, by simp [SV.den, SI.den, hwrap64s i (by omega)]⟩⟩, trivial⟩ trivial
    · simp only [SB.F, SI.den] at hy2
      have hno : ¬ ((f i).nd = nd ∧ (f i).st = 0) := fun ⟨h1, h2⟩ => hy2.elim (fun h => h h1) (fun h => h h2)
      obtain ⟨hN1, hF1⟩ := hnot i hno
      refine X.go T34_ok 400 _ rfl Try.results34 ?_
      conv => arg 2; cbv
      refine X.back (fun N a w' hN hf hS => hq ⟨i + 1, by omega⟩ a w' (by show n - (i + 1) < n - i; omega) ?_)
      refine At.mk hN hf hS (Nat.zero_le _) ⟨⟨_, rfl, .inl ⟨rfl, rfl⟩⟩, ⟨_, rfl, .inl ⟨rfl, rfl⟩⟩, ⟨_, rfl, .inr ⟨_, rfl, by simp [SV.den, SI.den, hN1]⟩⟩, ⟨_, rfl, .inl ⟨rfl, rfl⟩⟩, ⟨_, rfl, .inl ⟨rfl, rfl⟩⟩, ⟨_, rfl, .inr ⟨_, rfl, by simp [SV.den, SI.den, hwrap64s i (by omega)]⟩⟩, trivial⟩ trivial (fun _ _ _ h => h) (locf _) ?_
      have := hS.res
      show HistAt ⟨hb, hy, nl, eb, ey, n, cp, q, F (i + 1)⟩ _
      rw [hF1]; exact this
  · simp only [SB.F, SI.den] at hge
    have hin : i = n := by omega
    subst hin
    refine X.go T34_ok 400 _ rfl Try.results34 ?_
    conv => arg 2; cbv
    refine X.done T34_ok rfl (fun N w' v hN hS hv => ?_)
    simp [resV, SV.den, SI.den] at hv
    exact ⟨⟨by rw [← hv], hS.res⟩, hS.chg⟩

theorem lost_ok (H : Hist) (nd : Int) (w : World) (ok : H.Ok) (h : HistAt H w) (hn : H.n ≤ 1000) :
    Calls Try.prog 34 #[.pointer (some ⟨H.hb, H.hy, none⟩), .int .u8 nd] w fun e w' => (e = .returned (.int .i64 (lostN nd H.f H.n : Nat)) ∧ HistAt { H with f := lostF nd H.f H.n } w') ∧ Chg H.D w w' := by
  obtain ⟨hb, hy, nl, eb, ey, n, cp, q, f⟩ := H
  refine lost_aux hb hy nl eb ey n cp q f nd (lostN nd f) (lostF nd f) rfl (lostN_le nd f) (by funext k; simp [lostF]) (fun i => by simp [lostF]) (fun i hi => ⟨?_, ?_⟩) (fun i hi => ⟨?_, ?_⟩) w ok h hn
  · show (if _ then _ else _) = _; rw [if_pos hi]
  · exact (lostF_step nd f i _ (by unfold lostE; rw [if_pos hi])).symm
  · show (if _ then _ else _) = _; rw [if_neg hi]
  · exact (lostF_same nd f i (by unfold lostE; rw [if_neg hi])).symm

end Go.Proofs.Ytcfghkiokdbhjaa
