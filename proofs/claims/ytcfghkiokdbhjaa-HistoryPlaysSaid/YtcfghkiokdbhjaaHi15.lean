/- The document's history: Lost. -/
import Derived.Test.YtcfghkiokdbhjaaHi14

namespace Go.Proofs.Ytcfghkiokdbhjaa
open Go.Eng

set_option maxHeartbeats 40000000 in
set_option maxRecDepth 100000 in
set_option cbv.maxSteps 100000000 in
theorem rlost_nil (po : Option Addr) (cp : Nat) (nd : Int) (w : World) :
    Calls Try.prog 35 #[.slice po 0 cp, .int .u8 nd] w fun e w' => (∃ p', e = .returned (.tuple #[.int .i64 0, .slice p' 0 0])) ∧ Chg (fun _ _ => False) w w' := by
  refine X.begin (rg := []) (N := []) (ss := [.slv po 0 cp, .int .u8 (.v nd)]) Try.func35 rfl B35_ok rfl rfl Sat.std0 ?_
  refine X.go T35_ok 400 _ rfl Try.results35 ?_
  conv => arg 2; cbv
  refine X.app0 T35_ok rfl rfl rfl rfl rfl rfl rfl rfl rfl rfl (by decide) rfl (by decide) rfl ?_
  refine X.goC .nil true T35_ok 400 _ rfl Try.results35 ?_
  conv => arg 2; cbv
  refine X.done T35_ok rfl (fun N w' v hN hS hv => ?_)
  obtain ⟨p, hp⟩ : ∃ p, N[0]? = some p := ⟨_, List.getElem?_eq_getElem (by rw [hS.len]; exact Nat.zero_lt_one)⟩
  simp [resV, SV.den, SV.denL, SI.den, hp, Num.cap] at hv
  exact ⟨⟨_, by rw [← hv]⟩, hS.chg.none⟩

set_option maxHeartbeats 40000000 in
set_option maxRecDepth 100000 in
set_option cbv.maxSteps 100000000 in
theorem rlost_aux (po : Option Addr) (n cp : Nat) (nd : Int) (f : Nat → Ent) (L : Nat → Nat) (F : Nat → Nat → Ent) (L0 : L 0 = 0) (Lle : ∀ i, L i ≤ i) (F0 : F 0 = f) (Fi : ∀ i, F i i = f i)
    (hyes : ∀ i, ((f i).nd = nd ∧ (f i).st = 0) → L (i + 1) = L i + 1 ∧ F (i + 1) = updA (F i) i { f i with st := 2 }) (hnot : ∀ i, ¬ ((f i).nd = nd ∧ (f i).st = 0) → L (i + 1) = L i ∧ F (i + 1) = F i)
    (w : World) (hn : n ≤ 1000) (h0 : n ≠ 0) (hE : EntsIn po n f w) :
    Calls Try.prog 35 #[.slice po n cp, .int .u8 nd] w fun e w' => (∃ b y c', e = .returned (.tuple #[.int .i64 (L n : Nat), .slice (some ⟨b, y, none⟩) n c']) ∧ w.heap.size ≤ b ∧ n ≤ c' ∧ ArrAt b y 18 n (fun i => (F n i).vals) w') ∧ Chg (fun _ _ => False) w w' := by
  obtain ⟨b, y, z, hpo, hz, hcell⟩ := hE 0 (by omega)
  obtain ⟨cs, hcs⟩ : ∃ cs, cs = rowsL (fun i => (f i).sv) n := ⟨_, rfl⟩
  have hlen : cs.length = n * 18 := by rw [hcs]; exact rowsL_len (fun i => (f i).len) n
  obtain ⟨Q, hQ⟩ : ∃ Q : Ending → World → Prop, Q = fun e w' => (∃ b y c', e = .returned (.tuple #[.int .i64 (L n : Nat), .slice (some ⟨b, y, none⟩) n c']) ∧ w.heap.size ≤ b ∧ n ≤ c' ∧ ArrAt b y 18 n (fun i => (F n i).vals) w') ∧ Chg (fun _ _ => False) w w' := ⟨_, rfl⟩
  rw [← hQ]
  have hb : b < w.heap.size := World.block_lt_of_cell? _ _ (hcell 0 _ rfl)
  refine X.begin (rg := [⟨false, cs, none⟩]) (N := [⟨b, y, cs.length⟩]) (ss := [.osl 0 0 n 18 (some cp), .int .u8 (.v nd)]) Try.func35 rfl B35_ok rfl (by rw [hpo]; rfl)
    (Sat.std1 false hb (rows_cell hE hpo hcs) (fun h => by cases h)) ?_
  refine X.go T35_ok 9 _ rfl Try.results35 ?_
  conv => arg 2; cbv
  apply X.opEq (T := T35) T35_ok
  · exact opE_append (te := ti93) (new := cs) (m := n) rfl rfl rfl rfl rfl rfl rfl rfl (appSrc_row (g := ⟨false, cs, none⟩) rfl rfl rfl hlen)
      (appV_new (te := ti93) rfl h0 (appOk_ok (by decide) rfl hlen (by rw [hcs]; exact rowsL_all (fun i => (f i).one) n) (by show (2 * (0 + n) + 256) * 144 ≤ _; omega) (by omega))) rfl
  refine X.less [1, 11] ?_
  refine X.names fun N hN hNl => ?_
  have hNl : N.length = 3 := hNl
  obtain ⟨q0, q1, q2, rfl⟩ : ∃ q0 q1 q2, N = [q0, q1, q2] := by
    match N, hNl with
    | [q0, q1, q2], _ => exact ⟨q0, q1, q2, rfl⟩
  clear hN hNl
  refine X.conv fun N a w1 hN hf hS => ?_
  obtain rfl := le_eq (N := [q0, q1, q2]) hN hS.len
  obtain ⟨hS', -⟩ := Sat.rows hS (r := 2) (n := n) (sz := 18) (p := q2) (cs := cs) (f := fun i => (f i).sv) (F := fun i => (f i).vals) rfl rfl hcs (by decide) (fun i => (f i).len) (fun i => (f i).den _) (fun _ _ h => h)
  have hext := hS.ext 2 ⟨true, cs, none⟩ q2 rfl rfl rfl
  have hext : n * 18 ≤ q2.x := by rw [← hlen]; exact hext
  have hfar : w.heap.size ≤ q2.b := by
    rcases hS.foot 2 ⟨true, cs, none⟩ q2 rfl rfl rfl with h | h
    · exact h
    · exact absurd (h 0 (by omega)) ro_not
  have hS2 : Sat (mkE Try.prog Try.f35 Q w (InR [⟨b, y, cs.length⟩] [⟨false, cs, none⟩]) (elsewhere [⟨b, y, cs.length⟩] [⟨false, cs, none⟩] w) (arrD q2.b q2.o (n * 18)) (ArrAt q2.b q2.o 18 n (fun i => (f i).vals)) [] B35).toEnv [q0, q1, q2] _ w1 := hS'
  refine ⟨mkE Try.prog Try.f35 Q w (InR [⟨b, y, cs.length⟩] [⟨false, cs, none⟩]) (elsewhere [⟨b, y, cs.length⟩] [⟨false, cs, none⟩] w) (arrD q2.b q2.o (n * 18)) (ArrAt q2.b q2.o 18 n (fun i => (f i).vals)) [] B35, ⟨[(11, .val (.slv (some ⟨q2.b, q2.o, none⟩) n (q2.x / 18))), (1, .val (.int .u8 (.v nd)))], []⟩, rfl, rfl, rfl, rfl,
    At.of (nil_le _) hf hS2 (Nat.zero_le _) ⟨⟨_, rfl, .inr ⟨.slice (some ⟨q2.b, q2.o, none⟩) n (q2.x / 18), rfl, rfl⟩⟩, ⟨_, rfl, .inl ⟨rfl, rfl⟩⟩, trivial⟩ trivial, ?_⟩
  clear hS hS' hS2 hf hN
  obtain ⟨cc, hcc⟩ : ∃ c, c = q2.x / 18 := ⟨_, rfl⟩
  have hccn : n ≤ cc := by rw [hcc]; exact (Nat.le_div_iff_mul_le (by decide)).2 hext
  rw [← hcc]
  clear hcc hext
  generalize q2.b = b2 at hfar
  generalize q2.o = y2
  have hO : ∀ k o, arrD b2 y2 (n * 18) k o → w.heap.size ≤ k ∨ InR [⟨b, y, cs.length⟩] [⟨false, cs, none⟩] k o := fun k o h => .inl (h.1 ▸ hfar)
  have him : ∀ k o, arrD b2 y2 (n * 18) k o → elsewhere [⟨b, y, cs.length⟩] [⟨false, cs, none⟩] w k o = none := fun k o h => by rw [elsewhere_ro, h.1]; exact old_none hfar o
  refine X.go T35_ok 400 _ rfl Try.results35 ?_
  conv => arg 2; cbv
  refine X.loop (fun (i : {i : Nat // i ≤ n}) => mkE Try.prog Try.f35 Q w (InR [⟨b, y, cs.length⟩] [⟨false, cs, none⟩]) (elsewhere [⟨b, y, cs.length⟩] [⟨false, cs, none⟩] w) (arrD b2 y2 (n * 18)) (ArrAt b2 y2 18 n (fun k => (F i.1 k).vals)) [] B35)
    (fun i => ⟨[(1, .val (.int .u8 (.v nd))), (6, .val (.slv (some ⟨b2, y2, none⟩) n cc)), (7, .val (.int .i64 (.nat (L i.1)))), (13, .val (.int .i64 (.nat n))), (14, .val (.int .i64 (.nat i.1)))], []⟩) (fun i => n - i.1) (fun i => ⟨rfl, rfl, rfl, rfl⟩) (fun N a w' hN hf hS => ⟨⟨0, Nat.zero_le _⟩, ?_⟩) (fun i qq hq => ?_)
  · refine At.mk hN hf hS (Nat.zero_le _) ⟨⟨_, rfl, .inl ⟨rfl, rfl⟩⟩, ⟨_, rfl, .inl ⟨rfl, rfl⟩⟩, ⟨_, rfl, .inr ⟨_, rfl, by simp [SV.den, SI.den, L0]⟩⟩, ⟨_, rfl, .inl ⟨rfl, rfl⟩⟩, ⟨_, rfl, .inr ⟨_, rfl, rfl⟩⟩, trivial⟩ trivial (fun _ _ _ h => h) ArrAt.loc ?_
    show ArrAt b2 y2 18 n (fun k => (F 0 k).vals) _
    rw [F0]
    exact hS.res
  obtain ⟨i, hi⟩ := i
  refine X.go T35_ok 400 _ rfl Try.results35 ?_
  conv => arg 2; cbv
  refine X.cond rfl (fun hlt => ?_) (fun hge => ?_)
  · simp only [SB.T, SI.den] at hlt
    have hlt : i < n := by omega
    have hfi := Fi i
    have hyi := hyes i
    have hni := hnot i
    obtain ⟨z2, hz2⟩ : ∃ z, z = y2 + i * 18 := ⟨_, rfl⟩
    obtain ⟨e, he⟩ : ∃ e, e = f i := ⟨_, rfl⟩
    rw [← he] at hfi hyi hni
    refine X.go T35_ok 400 _ rfl Try.results35 ?_
    conv => arg 2; cbv
    refine X.idxSlv rfl rfl rfl rfl rfl Try.underlying71 Try.sizeOf93 i rfl hlt b2 y2 z2 rfl hz2 rfl ?_
    refine X.go T35_ok 400 _ rfl Try.results35 ?_
    conv => arg 2; cbv
    refine X.load1R T35_ok (r := .int .u8 (.v e.nd)) rfl rfl rfl rfl rfl rfl (fun N w2 _ hw => ⟨_, rfl, by
      have := (hw i hlt).2 0 (.int .u8 e.nd) (by show (F i i).vals[0]? = _; rw [hfi]; rfl)
      rw [show z2 + 0 = y2 + (i * 18 + 0) by omega]; exact this.1⟩) rfl ?_
    refine X.go T35_ok 400 _ rfl Try.results35 ?_
    conv => arg 2; cbv
    refine X.lit 24 rfl (fun hc => ?_) (fun hc => ?_)
    · have hc : e.nd = nd := hc
      refine X.bare rfl rfl ?_
      refine X.idxSlv rfl rfl rfl rfl rfl Try.underlying71 Try.sizeOf93 i rfl hlt b2 y2 z2 rfl hz2 rfl ?_
      refine X.go T35_ok 400 _ rfl Try.results35 ?_
      conv => arg 2; cbv
      refine X.bare rfl rfl ?_
      refine X.load1R T35_ok (r := .int .u8 (.v e.st)) rfl rfl rfl rfl rfl rfl (fun N w2 _ hw => ⟨_, rfl, by
        have := (hw i hlt).2 13 (.int .u8 e.st) (by show (F i i).vals[13]? = _; rw [hfi]; rfl)
        rw [show z2 + 13 = y2 + (i * 18 + 13) by omega]; exact this.1⟩) rfl ?_
      refine X.go T35_ok 400 _ rfl Try.results35 ?_
      conv => arg 2; cbv
      refine X.cond rfl (fun hst => ?_) (fun hst => ?_)
      · have hst : e.st = 0 := hst
        obtain ⟨hN1, hF1⟩ := hyi ⟨hc, hst⟩
        refine X.go T35_ok 400 _ rfl Try.results35 ?_
        conv => arg 2; cbv
        refine X.idxSlv rfl rfl rfl rfl rfl Try.underlying71 Try.sizeOf93 i rfl hlt b2 y2 z2 rfl hz2 rfl ?_
        refine X.go T35_ok 400 _ rfl Try.results35 ?_
        conv => arg 2; cbv
        refine X.storeR T35_ok (ArrAt b2 y2 18 n (fun k => (F (i + 1) k).vals)) rfl rfl rfl rfl rfl rfl rfl rfl (fun j hj => ⟨rfl, ?_, ?_⟩) hO him (by simp) (fun w1 hw j hj => ?_) (fun N w1 vs _ hw hvs => ?_) ArrAt.loc rfl ?_
        · show y2 ≤ z2 + 13 + j; omega
        · have hj : j < 1 := hj
          show z2 + 13 + j < y2 + n * 18; omega
        · have hj : j < 1 := hj
          obtain rfl : j = 0 := by omega
          have := (hw i hlt).2 13 (.int .u8 e.st) (by show (F i i).vals[13]? = _; rw [hfi]; rfl)
          rw [show y2 + (i * 18 + 13) = z2 + 13 + 0 by omega] at this
          rw [this.1]; exact ⟨rfl, this.2⟩
        · have hvs : [Value.int .u8 2] = vs := Option.some.inj hvs
          subst hvs
          have := ArrAt.put hw (i := i) (j0 := 13) (vs := [.int .u8 2]) (row := Ent.vals { e with st := 2 }) hlt (by show _ = (F i i).vals.take 13 ++ _ ++ (F i i).vals.drop _; rw [hfi]; rfl) (by decide)
          rw [upd_vals, show y2 + (i * 18 + 13) = z2 + 13 by omega, ← hF1] at this
          exact this
        show X (mkE Try.prog Try.f35 Q w (InR [⟨b, y, cs.length⟩] [⟨false, cs, none⟩]) (elsewhere [⟨b, y, cs.length⟩] [⟨false, cs, none⟩] w) (arrD b2 y2 (n * 18)) (ArrAt b2 y2 18 n (fun k => (F (i + 1) k).vals)) [] B35) _ _
        refine X.go T35_ok 400 _ rfl Try.results35 ?_
        conv => arg 2; cbv
        refine X.back (fun N a w' hN hf hS => hq ⟨i + 1, by omega⟩ a w' (by show n - (i + 1) < n - i; omega) ?_)
        exact At.same hN hf hS (Nat.zero_le _) ⟨⟨_, rfl, .inl ⟨rfl, rfl⟩⟩, ⟨_, rfl, .inl ⟨rfl, rfl⟩⟩, ⟨_, rfl, .inr ⟨_, rfl, by have := Lle i; simp [SV.den, SI.den, hN1, hwrap64s (L i) (by omega)]⟩⟩, ⟨_, rfl, .inl ⟨rfl, rfl⟩⟩, ⟨_, rfl, .inr ⟨_, rfl, by simp [SV.den, SI.den, hwrap64s i (by omega)]⟩⟩, trivial⟩ trivial
      · have hst : ¬ e.st = 0 := hst
        obtain ⟨hN1, hF1⟩ := hni (fun h => hst h.2)
        refine X.go T35_ok 400 _ rfl Try.results35 ?_
        conv => arg 2; cbv
        refine X.back (fun N a w' hN hf hS => hq ⟨i + 1, by omega⟩ a w' (by show n - (i + 1) < n - i; omega) ?_)
        refine At.mk hN hf hS (Nat.zero_le _) ⟨⟨_, rfl, .inl ⟨rfl, rfl⟩⟩, ⟨_, rfl, .inl ⟨rfl, rfl⟩⟩, ⟨_, rfl, .inr ⟨_, rfl, by simp [SV.den, SI.den, hN1]⟩⟩, ⟨_, rfl, .inl ⟨rfl, rfl⟩⟩, ⟨_, rfl, .inr ⟨_, rfl, by simp [SV.den, SI.den, hwrap64s i (by omega)]⟩⟩, trivial⟩ trivial (fun _ _ _ h => h) ArrAt.loc ?_
        show ArrAt b2 y2 18 n (fun k => (F (i + 1) k).vals) _
        rw [hF1]; exact hS.res
    · have hc : ¬ e.nd = nd := hc
      obtain ⟨hN1, hF1⟩ := hni (fun h => hc h.1)
      refine X.go T35_ok 400 _ rfl Try.results35 ?_
      conv => arg 2; cbv
      refine X.back (fun N a w' hN hf hS => hq ⟨i + 1, by omega⟩ a w' (by show n - (i + 1) < n - i; omega) ?_)
      refine At.mk hN hf hS (Nat.zero_le _) ⟨⟨_, rfl, .inl ⟨rfl, rfl⟩⟩, ⟨_, rfl, .inl ⟨rfl, rfl⟩⟩, ⟨_, rfl, .inr ⟨_, rfl, by simp [SV.den, SI.den, hN1]⟩⟩, ⟨_, rfl, .inl ⟨rfl, rfl⟩⟩, ⟨_, rfl, .inr ⟨_, rfl, by simp [SV.den, SI.den, hwrap64s i (by omega)]⟩⟩, trivial⟩ trivial (fun _ _ _ h => h) ArrAt.loc ?_
      show ArrAt b2 y2 18 n (fun k => (F (i + 1) k).vals) _
      rw [hF1]; exact hS.res
  · simp only [SB.F, SI.den] at hge
    have hin : i = n := by omega
    subst hin
    refine X.go T35_ok 400 _ rfl Try.results35 ?_
    conv => arg 2; cbv
    refine X.done T35_ok rfl (fun N w' v hN hS hv => ?_)
    cases hv
    rw [hQ]
    exact ⟨⟨b2, y2, cc, rfl, hfar, hccn, hS.res⟩, hS.chg.ro1⟩

theorem rlost_ok (po : Option Addr) (n cp : Nat) (nd : Int) (f : Nat → Ent) (w : World) (hn : n ≤ 1000) (hE : EntsIn po n f w) :
    Calls Try.prog 35 #[.slice po n cp, .int .u8 nd] w fun e w' => (∃ p' b y c', e = .returned (.tuple #[.int .i64 (lostN nd f n : Nat), .slice p' n c']) ∧ (0 < n → p' = some ⟨b, y, none⟩ ∧ w.heap.size ≤ b) ∧ n ≤ c' ∧ ArrAt b y 18 n (fun i => (lostF nd f n i).vals) w') ∧ Chg (fun _ _ => False) w w' := by
  by_cases h0 : n = 0
  · subst h0
    exact (rlost_nil po cp nd w).mono fun e w' ⟨⟨p', h1⟩, h2⟩ => ⟨⟨p', 0, 0, 0, h1, fun h => absurd h (Nat.lt_irrefl 0), Nat.le_refl _, fun i hi => absurd hi (Nat.not_lt_zero _)⟩, h2⟩
  · refine (rlost_aux po n cp nd f (lostN nd f) (lostF nd f) rfl (lostN_le nd f) (by funext k; simp [lostF]) (fun i => by simp [lostF]) (fun i hi => ⟨?_, ?_⟩) (fun i hi => ⟨?_, ?_⟩) w hn h0 hE).mono fun e w' ⟨⟨b, y, c', h1, h2, h3, h4⟩, h5⟩ => ⟨⟨_, b, y, c', h1, fun _ => ⟨rfl, h2⟩, h3, h4⟩, h5⟩
    · show (if _ then _ else _) = _; rw [if_pos hi]
    · exact (lostF_step nd f i _ (by unfold lostE; rw [if_pos hi])).symm
    · show (if _ then _ else _) = _; rw [if_neg hi]
    · exact (lostF_same nd f i (by unfold lostE; rw [if_neg hi])).symm

end Go.Proofs.Ytcfghkiokdbhjaa
