/- The history's functions: clones. -/
import Derived.Test.YtcfghkiokdbhjaaHi2
import Derived.Test.YtcfghkiokdbhjaaArr2

namespace Go.Proofs.Ytcfghkiokdbhjaa
open Go.Eng

/-- numbers lie there -/
def IntsIn (po : Option Addr) (n : Nat) (g : Nat → Int) (W : World) : Prop :=
  0 < n → ∃ b y, po = some ⟨b, y, none⟩ ∧ ∀ j, j < n → W.cell? ⟨b, y + j, none⟩ = some (.int .i64 (g j))

def intsL (g : Nat → Int) (n : Nat) : List SV := (List.range n).map fun j => .int .i64 (.v (g j))
theorem intsL_get (g : Nat → Int) (n j : Nat) (c : SV) (h : (intsL g n)[j]? = some c) : j < n ∧ c = .int .i64 (.v (g j)) := by
  unfold intsL at h
  rw [List.getElem?_map] at h
  obtain ⟨q, h1, h2⟩ := Option.map_eq_some_iff.1 h
  obtain ⟨h3, h4⟩ := List.getElem?_eq_some_iff.1 h1
  simp at h3 h4
  subst h4
  exact ⟨h3, h2.symm⟩
theorem intsL_len (g : Nat → Int) (n : Nat) : (intsL g n).length = n := by simp [intsL]
theorem intsL_one (g : Nat → Int) (n : Nat) : (intsL g n).all SV.one = true := by
  rw [List.all_eq_true]
  intro c hc
  obtain ⟨j, hj⟩ := List.mem_iff_getElem?.1 hc
  rw [(intsL_get g n j c hj).2]; rfl

set_option maxHeartbeats 40000000 in
set_option maxRecDepth 100000 in
set_option cbv.maxSteps 100000000 in
theorem cloneI_ok (po : Option Addr) (n cp : Nat) (g : Nat → Int) (w : World) (hn : n ≤ 1000) (hE : IntsIn po n g w) :
    Calls Try.prog 68 #[.slice po n cp] w fun e w' => (∃ p' c', e = .returned (.slice p' n c') ∧ IntsIn p' n g w' ∧ (∀ a, p' = some a → 0 < n → w.heap.size ≤ a.block)) ∧ Chg (fun _ _ => False) w w' := by
  obtain ⟨cs, hcs⟩ : ∃ cs, cs = intsL g n := ⟨_, rfl⟩
  have hlen : cs.length = n := by rw [hcs]; exact intsL_len g n
  by_cases h0 : n = 0
  · subst h0
    refine X.begin (rg := []) (N := []) (ss := [.slv po 0 cp]) Try.func68 rfl B68_ok rfl rfl Sat.std0 ?_
    refine X.go T68_ok 400 _ rfl Try.results68 ?_
    conv => arg 2; cbv
    refine X.eqNil po.isNone rfl rfl rfl rfl Try.underlying37 (fun N _ _ => ⟨_, _, _, rfl, rfl⟩) rfl ?_
    cases hpo : po with
    | none =>
      refine X.go T68_ok 400 _ rfl Try.results68 ?_
      conv => arg 2; cbv
      refine X.done T68_ok rfl (fun N w' v hN hS hv => ?_)
      simp [resV, SV.den, one?] at hv
      exact ⟨⟨none, 0, by rw [← hv], fun h => by omega, fun a h => by cases h⟩, hS.chg.none⟩
    | some a =>
      refine X.go T68_ok 400 _ rfl Try.results68 ?_
      conv => arg 2; cbv
      refine X.app0 T68_ok rfl rfl rfl rfl rfl rfl rfl rfl rfl rfl (by decide) rfl (by decide) rfl ?_
      refine X.go T68_ok 400 _ rfl Try.results68 ?_
      conv => arg 2; cbv
      refine X.done T68_ok rfl (fun N w' v hN hS hv => ?_)
      obtain ⟨p, hp⟩ : ∃ p, N[0]? = some p := ⟨_, List.getElem?_eq_getElem (by rw [hS.len]; simp)⟩
      simp [resV, SV.den, hp, Num.cap] at hv
      exact ⟨⟨_, 0, by rw [← hv], fun h => by omega, fun a _ h => by omega⟩, hS.chg.none⟩
  · obtain ⟨b, y, rfl, hcell⟩ := hE (by omega)
    have hcell' : ∀ (j : Nat) (c : SV), cs[j]? = some c → ∃ v, c.den [⟨b, y, cs.length⟩] = some v ∧ w.cell? ⟨b, y + j, none⟩ = some v := fun j c hj => by
      rw [hcs] at hj
      obtain ⟨h1, rfl⟩ := intsL_get g n j c hj
      exact ⟨_, rfl, hcell j h1⟩
    refine X.begin (rg := [⟨false, cs, none⟩]) (N := [⟨b, y, cs.length⟩]) (ss := [.osl 0 0 n 1 (some cp)]) Try.func68 rfl B68_ok rfl rfl
      (Sat.std1 false (World.block_lt_of_cell? _ _ (hcell 0 (by omega))) hcell' (fun h => by cases h)) ?_
    refine X.go T68_ok 400 _ rfl Try.results68 ?_
    conv => arg 2; cbv
    refine X.eqNil false rfl rfl rfl rfl Try.underlying37 (fun N hN _ => by
      have hq := hN 0 ⟨b, y, cs.length⟩ rfl
      exact ⟨some ⟨b, y + 0, none⟩, n, cp, by simp only [SV.den, hq]; rfl, rfl⟩) rfl ?_
    refine X.go T68_ok 7 _ rfl Try.results68 ?_
    conv => arg 2; cbv
    apply X.opEq (T := T68) T68_ok
    · exact opE_append (te := ti2) (new := cs) (m := n) rfl rfl rfl rfl rfl rfl rfl rfl (appSrc_row (g := ⟨false, cs, none⟩) rfl rfl rfl (by show cs.length = n * 1; omega))
        (appV_new (te := ti2) rfl h0 (appOk_ok (by decide) rfl (by show cs.length = n * 1; omega) (by rw [hcs]; exact intsL_one g n) (by show (2 * (0 + n) + 256) * 8 ≤ _; omega) (by omega))) rfl
    refine X.go T68_ok 400 _ rfl Try.results68 ?_
    conv => arg 2; cbv
    refine X.done T68_ok rfl (fun N w' v hN hS hv => ?_)
    obtain ⟨p, hp⟩ : ∃ p, N[2]? = some p := ⟨_, List.getElem?_eq_getElem (by rw [hS.len]; simp)⟩
    have hext := hS.ext 2 ⟨true, cs, none⟩ p rfl hp rfl
    simp only [hlen] at hext
    simp only [resV, SV.den, hp, Num.cap, Option.some.injEq] at hv
    refine ⟨⟨_, _, by rw [← hv], fun _ => ⟨p.b, p.o + 0, rfl, fun j hj => ?_⟩, fun a ha _ => ?_⟩, hS.chg.ro1⟩
    · have hj' : cs[j]? = some (.int .i64 (.v (g j))) := by
        rw [hcs]; unfold intsL
        rw [List.getElem?_map, List.getElem?_range hj]; rfl
      exact hS.at hp (g := ⟨true, cs, none⟩) rfl hj' rfl
    · simp only [Option.some.injEq] at ha
      subst ha
      rcases hS.foot 2 ⟨true, cs, none⟩ p rfl hp rfl with h | h
      · exact h
      · exact absurd (h 0 (by omega)) ro_not

theorem Ent.len (e : Ent) : e.sv.length = 18 := rfl
theorem Ent.vlen (e : Ent) : e.vals.length = 18 := rfl
theorem Ent.one (e : Ent) : e.sv.all SV.one = true := rfl

/-- the entry's cells, told one by one -/
theorem Ent.get (e : Ent) (j : Nat) (c : SV) (h : e.sv[j]? = some c) (N : Nums) : ∃ v, c.den N = some v ∧ e.vals[j]? = some v := by
  obtain ⟨v, h1, h2⟩ := (SV.denL_get _ (e.den N)).2 j c h
  exact ⟨v, h1, h2⟩

set_option maxHeartbeats 40000000 in
set_option maxRecDepth 100000 in
set_option cbv.maxSteps 100000000 in
theorem cloneE_ok (po : Option Addr) (n cp : Nat) (f : Nat → Ent) (w : World) (hn : n ≤ 1000) (hE : EntsIn po n f w) :
    Calls Try.prog 72 #[.slice po n cp] w fun e w' => (∃ p' c' b y, e = .returned (.slice p' n c') ∧ (0 < n → p' = some ⟨b, y, none⟩ ∧ w.heap.size ≤ b) ∧ ArrAt b y 18 n (fun i => (f i).vals) w' ∧ n ≤ c') ∧ Chg (fun _ _ => False) w w' := by
  obtain ⟨cs, hcs⟩ : ∃ cs, cs = rowsL (fun i => (f i).sv) n := ⟨_, rfl⟩
  have hlen : cs.length = n * 18 := by rw [hcs]; exact rowsL_len (fun i => (f i).len) n
  by_cases h0 : n = 0
  · subst h0
    refine X.begin (rg := []) (N := []) (ss := [.slv po 0 cp]) Try.func72 rfl B72_ok rfl rfl Sat.std0 ?_
    refine X.go T72_ok 400 _ rfl Try.results72 ?_
    conv => arg 2; cbv
    refine X.eqNil po.isNone rfl rfl rfl rfl Try.underlying71 (fun N _ _ => ⟨_, _, _, rfl, rfl⟩) rfl ?_
    cases hpo : po with
    | none =>
      refine X.go T72_ok 400 _ rfl Try.results72 ?_
      conv => arg 2; cbv
      refine X.done T72_ok rfl (fun N w' v hN hS hv => ?_)
      simp [resV, SV.den, one?] at hv
      exact ⟨⟨none, 0, 0, 0, by rw [← hv], fun h => by omega, fun s hs => by omega, Nat.zero_le _⟩, hS.chg.none⟩
    | some a =>
      refine X.go T72_ok 400 _ rfl Try.results72 ?_
      conv => arg 2; cbv
      refine X.app0 T72_ok rfl rfl rfl rfl rfl rfl rfl rfl rfl rfl (by decide) rfl (by decide) rfl ?_
      refine X.go T72_ok 400 _ rfl Try.results72 ?_
      conv => arg 2; cbv
      refine X.done T72_ok rfl (fun N w' v hN hS hv => ?_)
      obtain ⟨p, hp⟩ : ∃ p, N[0]? = some p := ⟨_, List.getElem?_eq_getElem (by rw [hS.len]; simp)⟩
      simp [resV, SV.den, hp, Num.cap] at hv
      exact ⟨⟨_, 0, 0, 0, by rw [← hv], fun h => by omega, fun s hs => by omega, Nat.zero_le _⟩, hS.chg.none⟩
  · obtain ⟨b, y, z, rfl, hz, hcell0⟩ := hE 0 (by omega)
    have hb : b < w.heap.size := World.block_lt_of_cell? _ _ (hcell0 0 _ rfl)
    have hcell' : ∀ (j : Nat) (c : SV), cs[j]? = some c → ∃ v, c.den [⟨b, y, cs.length⟩] = some v ∧ w.cell? ⟨b, y + j, none⟩ = some v := fun q c hq => by
      rw [hcs] at hq
      obtain ⟨h1, h2, h3, h4⟩ := rowsL_get (fun i => (f i).len) (by decide) hq
      obtain ⟨v, h5, h6⟩ := Ent.get _ _ _ h4 [⟨b, y, cs.length⟩]
      obtain ⟨b', y', z', e1, e2, e3⟩ := hE (q / 18) h1
      cases e1
      refine ⟨v, h5, ?_⟩
      have := e3 _ _ h6
      rw [e2, Nat.add_assoc, ← h3] at this
      exact this
    refine X.begin (rg := [⟨false, cs, none⟩]) (N := [⟨b, y, cs.length⟩]) (ss := [.osl 0 0 n 18 (some cp)]) Try.func72 rfl B72_ok rfl rfl
      (Sat.std1 false hb hcell' (fun h => by cases h)) ?_
    refine X.go T72_ok 400 _ rfl Try.results72 ?_
    conv => arg 2; cbv
    refine X.eqNil false rfl rfl rfl rfl Try.underlying71 (fun N hN _ => by
      have hq := hN 0 ⟨b, y, cs.length⟩ rfl
      exact ⟨some ⟨b, y + 0, none⟩, n, cp, by simp only [SV.den, hq]; rfl, rfl⟩) rfl ?_
    refine X.go T72_ok 7 _ rfl Try.results72 ?_
    conv => arg 2; cbv
    apply X.opEq (T := T72) T72_ok
    · exact opE_append (te := ti93) (new := cs) (m := n) rfl rfl rfl rfl rfl rfl rfl rfl (appSrc_row (g := ⟨false, cs, none⟩) rfl rfl rfl hlen)
        (appV_new (te := ti93) rfl h0 (appOk_ok (by decide) rfl hlen (by rw [hcs]; exact rowsL_all (fun i => (f i).one) n) (by show (2 * (0 + n) + 256) * 144 ≤ _; omega) (by omega))) rfl
    refine X.go T72_ok 400 _ rfl Try.results72 ?_
    conv => arg 2; cbv
    refine X.done T72_ok rfl (fun N w' v hN hS hv => ?_)
    obtain ⟨p, hp⟩ : ∃ p, N[2]? = some p := ⟨_, List.getElem?_eq_getElem (by rw [hS.len]; simp)⟩
    have hext := hS.ext 2 ⟨true, cs, none⟩ p rfl hp rfl
    simp only [hlen] at hext
    simp only [resV, SV.den, hp, Num.cap, Option.some.injEq] at hv
    refine ⟨⟨some ⟨p.b, p.o + 0, none⟩, _, p.b, p.o, by rw [← hv], fun _ => ⟨rfl, ?_⟩, fun i hi => ⟨(f i).vlen, fun j v hj => ?_⟩, (Nat.le_div_iff_mul_le (by decide)).2 (by show n * 18 ≤ p.x - 0; omega)⟩, hS.chg.ro1⟩
    · rcases hS.foot 2 ⟨true, cs, none⟩ p rfl hp rfl with h | h
      · exact h
      · exact absurd (h 0 (by omega)) ro_not
    · have hj18 : j < 18 := by rw [← (f i).vlen]; exact (List.getElem?_eq_some_iff.1 hj).1
      obtain ⟨c, hc⟩ : ∃ c, (f i).sv[j]? = some c := ⟨_, List.getElem?_eq_getElem (by rw [(f i).len]; exact hj18)⟩
      obtain ⟨v', h5, h6⟩ := Ent.get _ _ _ hc N
      rw [hj] at h6; cases h6
      have hci : cs[i * 18 + j]? = some c := by rw [hcs, rowsL_at (fun i => (f i).len) hj18 hi]; exact hc
      have hlt := idx_lt (sz := 18) hi hj18
      exact ⟨hS.at hp (g := ⟨true, cs, none⟩) rfl hci h5, (hS.room 2 ⟨true, cs, none⟩ p rfl hp rfl _ (by omega)).2⟩

end Go.Proofs.Ytcfghkiokdbhjaa
